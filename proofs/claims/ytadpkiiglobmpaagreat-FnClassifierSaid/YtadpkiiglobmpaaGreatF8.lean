/- A part of a proof. -/
import Derived.Test.YtadpkiiglobmpaaGreatF7
import Derived.Sort.Row
import Derived.Sort.Grow
import Derived.Deep.Draws
set_option linter.unusedVariables false
set_option linter.unusedSimpArgs false
set_option linter.unusedSectionVars false
open Nat (reduceEqDiff reduceAdd reduceMul reduceLeDiff reduceLT)
namespace Go.Proofs.Shf
open Go.AW Go.Proofs Go.Shf
end Go.Proofs.Shf
namespace Go.Proofs.Shf
open Go.AW Go.Proofs Go.Shf
end Go.Proofs.Shf
namespace Go.Proofs.Shf
open Go.AW Go.Proofs Go.Shf
def lensOf (L : List (List (List Int))) : List Int := L.map fun l => (l.length : Int)
open Classical in
noncomputable def clsOr (c : Cat) : AV := if AllFew c then .ptr (clsCells c (listsOf c) (iL (lensOf (listsOf c))) (iLL (pullsOf c (listsOf c)))) else .nilp
def SievesOk (B : Nat) (c : Cat) : Prop := ∀ x : Nat, x < c.objs.toNat → ∃ l, Pur Tryz.prog B 102 [.ptr c.cells, .int .i64 x] (.tup [iLL l, .bool (dec (Few c x))]) ∧ (Few c x → l = allS c x ∧ l.length ≤ 16)
theorem classifier_ok (B : Nat) (c : Cat) (hc : c.Is) (hsv : SievesOk B c) : Pur Tryz.prog B 124 [.ptr c.cells] (.tup [clsOr c, .bool (dec (AllFew c))]) := by
 refine ⟨fun H0 => c124p (by simp) fun hfi => ?_⟩
 have hm := hc.1.m
 have hob := hc.1.o
 have htl := hc.1.tol
 unfold s124p
 try simp only [go_sem, reduceAdd]
 refine (catCopy_ok B c).go fun _ => ?_
 try simp only [go_sem, reduceAdd, reduceLeDiff]
 let st : AV → AV → AV → MObj := fun x5 x6 x7 => .cells 8 [iI c.objs, iL c.frm, iL c.to, iL c.idn, iLL c.comp, x5, x6, x7] 0
 refine ⟨by simp [maxL], newRef_own (.nil _) fun id4 H o => ?_⟩
 try simp only [go_sem]
 refine awp_for [0, 4] (G := (AV × AV) × List (Nat × MObj)) (fun k g => [(5, some (.int .i64 (k : Int)))])
  (fun k g H => LsO iLL H0 H ((id4, st g.1.1 .nilsl g.1.2) :: (g.2 ++ [])) g.1.2 ((List.range k).map fun x : Nat => allS c (x : Int)) ∧ LsP iI g.2 g.1.1 (lensOf ((List.range k).map fun x : Nat => allS c (x : Int))) ∧ ∀ x : Nat, x < k → Few c x)
  c.objs.toNat ((.nilsl, .nilsl), []) ⟨.inl ⟨rfl, rfl, o⟩, .inl ⟨rfl, rfl, rfl⟩, by simp⟩ rfl ?_
 clear o
 rintro k ⟨⟨X5, X7⟩, p5⟩ H hk ⟨hX, h5, hall⟩
 replace hX : LsO iLL H0 H ((id4, st X5 .nilsl X7) :: (p5 ++ [])) X7 ((List.range k).map fun x : Nat => allS c (x : Int)) := hX
 replace h5 : LsP iI p5 X5 (lensOf ((List.range k).map fun x : Nat => allS c (x : Int))) := h5
 try simp only [go_sem, reduceAdd, reduceLeDiff]
 refine ⟨fun h1 => At.mk ?_, fun h1 => At.mk ?_⟩
 ·have h1p := of_decide h1
  have w := wsucc (k := k) (by omega)
  obtain ⟨l, hl, hl2⟩ := hsv k (by omega)
  try simp only [go_sem]
  refine hl.go fun _ => ?_
  try simp only [go_sem, reduceAdd, reduceLT]
  by_cases hfw : Few c k
  ·rw [dec_t hfw]
   obtain ⟨rfl, hl16⟩ := hl2 hfw
   try simp only [go_sem, reduceAdd]
   obtain ⟨Lk, hLk⟩ : ∃ Lk, Lk = (List.range (k + 1)).map fun x : Nat => allS c (x : Int) := ⟨_, rfl⟩
   have e7 : ((List.range k).map fun x : Nat => allS c (x : Int)) ++ [allS c k] = Lk := by rw [hLk, List.range_succ, List.map_append]; rfl
   have e5 : lensOf ((List.range k).map fun x : Nat => allS c (x : Int)) ++ [((allS c k).length : Int)] = lensOf Lk := by
    rw [← e7, lensOf, lensOf, List.map_append]; rfl
   have hLl : Lk.length = k + 1 := by rw [hLk]; simp
   have hll : (lensOf Lk).length = k + 1 := by rw [lensOf, List.length_map, hLl]
   refine rd_get hX.obj (by simp [st]) ?_
   try simp only [go_sem, reduceAdd]
   refine hX.app (allS c k) rfl (by simp only [List.length_map, List.length_range, maxL]; omega) fun idn H o => ?_
   rw [e7] at o ⊢
   try simp only [go_sem, reduceAdd]
   refine stc o.swap fun H o => ?_
   simp only [wr_cons, wr_nil, List.set_cons_zero, List.set_cons_succ] at o
   have hX : LsO iLL H0 H ((id4, st X5 .nilsl (.buf idn Lk.length)) :: (p5 ++ [])) (.buf idn Lk.length) Lk := .inr ⟨idn, rfl, o.swap⟩
   generalize (AV.buf idn Lk.length) = X7 at hX
   clear o
   obtain ⟨p7, h7, hX⟩ := hX.focus h5
   rw [List.nil_append] at hX
   try simp only [go_sem, reduceAdd]
   refine rd_get hX.obj (by simp [st]) ?_
   try simp only [go_sem, reduceAdd]
   refine hX.app ((allS c k).length : Int) rfl (by simp only [lensOf, List.length_map, List.length_range, maxL]; omega) fun idn H o => ?_
   rw [e5] at o ⊢
   try simp only [go_sem, reduceAdd]
   refine stc o.swap fun H o => ?_
   simp only [wr_cons, wr_nil, List.set_cons_zero, List.set_cons_succ] at o
   have hX : LsO iI H0 H ((id4, st (.buf idn (lensOf Lk).length) .nilsl X7) :: p7) (.buf idn (lensOf Lk).length) (lensOf Lk) := .inr ⟨idn, rfl, o.swap⟩
   generalize (AV.buf idn (lensOf Lk).length) = X5 at hX
   clear o
   rw [← List.append_nil p7] at hX
   obtain ⟨p5, h5, hX⟩ := hX.focus h7
   rw [hLk] at hX h5
   rw [List.nil_append, ← List.append_nil p5] at hX
   try simp only [go_sem, w]
   refine for_next ((X5, X7), p5) (by omega) ⟨hX, h5, fun x hx => ?_⟩ rfl
   by_cases e : x = k
   ·subst e; exact hfw
   ·exact hall x (by omega)
  ·rw [dec_f hfw]
   try simp only [go_sem]
   have hno : ¬ AllFew c := fun e => hfw (e k (by omega))
   have hsub : H0.sub H := by obtain ⟨_, oo, _⟩ := hX.split; exact oo.sub
   refine pure_ret ?_ hsub
   rw [clsOr, if_neg hno, dec_f hno]
 ·have h1p := of_ndecide h1
  try simp only [go_sem]
  have hkn : k = c.objs.toNat := by omega
  have hfew : AllFew c := fun x hx => hall x (by omega)
  rw [clsOr, if_pos hfew, dec_t hfew]
  have hLk : ((List.range k).map fun x : Nat => allS c (x : Int)) = listsOf c := by rw [hkn]; rfl
  have tab := tabOk hc hfew
  rw [hLk] at hX h5
  generalize hL : listsOf c = L at *
  refine wk_ls 7 hX rfl fun H o => ?_
  clear hX
  simp only [List.set_cons_zero, List.set_cons_succ] at o
  have hX := LsO.mk (o.perm List.perm_middle.symm) h5
  clear o
  refine wk_ls 5 hX rfl fun H o => wkW_done ?_
  clear hX
  simp only [List.set_cons_zero, List.set_cons_succ] at o
  generalize hst : st = st2
  clear hall h5 hst st2 st
  let st : AV → MObj := fun x6 => .cells 8 [iI c.objs, iL c.frm, iL c.to, iL c.idn, iLL c.comp, iL (lensOf L), x6, iLLL L] 0
  have hLl := tab.len
  try simp only [go_sem, reduceAdd, reduceLeDiff]
  refine awp_for [0, 4, 60] (G := AV) (fun a g => [(61, some (.int .i64 (a : Int)))])
   (fun a X H => LsO iL H0 H [(id4, st X)] X ((List.range a).map (rowP c L))) c.frm.length .nilsl (.inl ⟨rfl, rfl, o⟩) rfl ?_
  clear o
  rintro a X H ha hX
  replace hX : LsO iL H0 H [(id4, st X)] X ((List.range a).map (rowP c L)) := hX
  try simp only [go_sem]
  refine ⟨fun h2 => At.mk ?_, fun h2 => At.mk ?_⟩
  ·have h2p := of_decide h2
   have w2 := wsucc (k := a) (by omega)
   have haa : 0 ≤ (a : Int) ∧ (a : Int).toNat < c.frm.length := ⟨by omega, by simpa using h2p⟩
   have hfo := hc.1.frmObj haa.2
   have hto := hc.1.toObj haa.2
   simp only [ix_nat] at hfo hto
   obtain ⟨q, o, hq⟩ := hX.split
   clear hX
   try simp only [go_sem]
   refine new_list iI o fun idr H o => ?_
   have hg4 : H.get id4 = some (st X) := o.get (id4, st X) (by simp)
   try simp only [go_sem, reduceAdd]
   refine rd_get hg4 (by simp [st]) ?_
   try simp only [go_sem, reduceAdd, reduceLeDiff]
   refine ⟨h2p, ⟨hfo.1, by omega⟩, ?_⟩
   have hF0 : ix L (c.frm.getD a default) = L.getD (c.frm.getD a default).toNat default := rfl
   have hfw := tab.few (c.frm.getD a default).toNat (by omega)
   have hrow : rowP c L a = (L.getD (c.frm.getD a default).toNat default).map fun s => indexOf (ix L (c.to.getD a default)) (pullS c a s) := rfl
   rw [hF0]
   generalize hF : L.getD (c.frm.getD a default).toNat default = F at *
   refine awp_for [0, 4, 8, 60, 61, 77, 78] (G := Nat × List Int) (fun i g => [(9, some (.buf g.1 g.2.length)), (79, some (.int .i64 (i : Int)))])
    (fun i g H => g.2 = (F.take i).map (fun s => indexOf (ix L (c.to.getD a default)) (pullS c a s)) ∧ Owns H0 H ((g.1, .cells 1 (g.2.map iI) 0) :: (q ++ [(id4, st X)]))) F.length (idr, []) ⟨by simp, o⟩ rfl ?_
   clear o hg4
   rintro i ⟨idr, row⟩ H hi ⟨hr, o⟩
   replace hr : row = (F.take i).map (fun s => indexOf (ix L (c.to.getD a default)) (pullS c a s)) := hr
   replace o : Owns H0 H ((idr, .cells 1 (row.map iI) 0) :: (q ++ [(id4, st X)])) := o
   have hrl : row.length = i := by rw [hr, List.length_map, List.length_take]; omega
   have hg4 : H.get id4 = some (st X) := o.get (id4, st X) (by simp)
   try simp only [go_sem]
   refine ⟨fun h3 => At.mk ?_, fun h3 => At.mk ?_⟩
   ·have h3p := of_decide h3
    have w3 := wsucc (k := i) (by omega)
    try simp only [go_sem, reduceAdd, reduceLeDiff]
    refine ⟨h3p, by omega, _, (pull_ok B c hc.1 a haa (F.getD i default)).run, ?_⟩
    refine CallH.lentPure (es := [.ptr (clsCells c L (iL (lensOf L)) X), .int .i64 (c.to.getD a default), iL (pullS c a (F.getD i default))]) (.int _ _) rfl (fun j hj => ?_) (number_ok B c L (iL (lensOf L)) X (c.to.getD a default) ⟨hto.1, by omega⟩ _).run ?_
    ·obtain rfl | rfl | rfl : j = 0 ∨ j = 1 ∨ j = 2 := by simp only [List.length_cons, List.length_nil] at hj; omega
     ·exact (Tr.ref id4 8 0 _ _ hg4 rfl fun i _ => .val _).arg
     ·exact val_arg _
     ·exact val_arg _
    try simp only [go_sem, reduceAdd]
    refine app_own (f := iI) (indexOf (ix L (c.to.getD a default)) (pullS c a (F.getD i default))) o rfl rfl (by simp only [maxL]; omega) fun idr H o => ?_
    try simp only [go_sem, w3]
    exact for_next (_, _) (by omega) ⟨by rw [take_succ_getD F h3p, List.map_append, hr]; rfl, o⟩ rfl
   ·have h3p := of_ndecide h3
    obtain rfl : i = F.length := by omega
    rw [List.take_length, ← hrow] at hr
    try simp only [go_sem]
    refine fz_own o rfl fun H o => ?_
    try simp only [go_sem, reduceAdd]
    have hX : LsO iL H0 H [(id4, st X)] X ((List.range a).map (rowP c L)) := LsO.mk o hq
    clear o
    refine rd_get hX.obj (by simp [st]) ?_
    try simp only [go_sem, reduceAdd]
    refine hX.app row rfl (by simp only [List.length_map, List.length_range, maxL]; omega) fun idn H o => ?_
    try simp only [go_sem, reduceAdd]
    refine stc o.swap fun H o => ?_
    simp only [wr_cons, wr_nil, List.set_cons_zero, List.set_cons_succ] at o
    have e7 : (List.range a).map (rowP c L) ++ [row] = (List.range (a + 1)).map (rowP c L) := by rw [List.range_succ, List.map_append, hr]; rfl
    have hX : LsO iL H0 H [(id4, st (.buf idn ((List.range a).map (rowP c L) ++ [row]).length))] (.buf idn ((List.range a).map (rowP c L) ++ [row]).length) ((List.range a).map (rowP c L) ++ [row]) := .inr ⟨idn, rfl, o.swap⟩
    generalize (AV.buf idn ((List.range a).map (rowP c L) ++ [row]).length) = X7 at hX
    rw [e7] at hX
    try simp only [go_sem, w2]
    exact for_next X7 (by omega) hX rfl
  ·have h2p := of_ndecide h2
   obtain rfl : a = c.frm.length := by omega
   try simp only [go_sem]
   refine wk_ls 6 hX rfl fun H o => ?_
   simp only [List.set_cons_zero, List.set_cons_succ] at o
   refine wk_ref 4 o rfl fun H o => wkW_done ?_
   try simp only [go_sem]
   exact pure_ret rfl o.sub
end Go.Proofs.Shf
namespace Go.AW
open Go.Proofs Go.Proofs.Shf Go.Shf Go.RowKit
theorem WRel.other {g : Gh} {B : Nat} {H : Heap} {w w' : World} (h : WRel g B H w) (b : Nat) (hfz : ∀ o, g.fz b o = none) (hfm : g.fm b = none) (hk : ∀ k, k ≠ b → k < w.heap.size → w'.heap[k]? = w.heap[k]?) : WRel g w'.heap.size [] w' := by
 constructor
 ·intro b' o v e
  have hl := h.fz_lt e
  have hne : b' ≠ b := by rintro rfl; rw [hfz] at e; cases e
  rw [World.cell?_of_block (w := w) (a := ⟨b', o, none⟩) (hk b' hne hl)]; exact h.fz _ _ _ e
 ·intro b' es e
  have hl := h.fm_lt e
  have hne : b' ≠ b := by rintro rfl; rw [hfm] at e; cases e
  obtain ⟨clk, hc⟩ := h.fm _ _ e
  exact ⟨clk, by rw [hk b' hne hl]; exact hc⟩
 ·intro i o e; cases e
 ·intro i j x c c' n e1; cases e1
 ·intro i j x n e1; cases e1
 ·exact Nat.le_refl _
 ·exact h.fin
theorem row_heap {α : Type} [Inhabited α] (enc : α → Value) (w : World) (b off m : Nat) (dk : Array α) (os : Array Obj) : (Sort.grow (Sort.putRow enc (Sort.ahead w m) b off dk) os).heap = (w.heap.modify b (Sort.onCells (Sort.putCells enc off dk))) ++ os := rfl
theorem row_other {α : Type} [Inhabited α] (enc : α → Value) (w : World) (b off m : Nat) (dk : Array α) (os : Array Obj) (k : Nat) (hk : k ≠ b) (hl : k < w.heap.size) : (Sort.grow (Sort.putRow enc (Sort.ahead w m) b off dk) os).heap[k]? = w.heap[k]? := by
 rw [row_heap, Array.getElem?_append_left (by simpa using hl), Array.getElem?_modify, if_neg (by omega)]
theorem below_grow {W w' : World} (h : Below W.heap.size W w') : ∃ q os', w' = Sort.grow (W.drewN q) os' := by
 refine ⟨w'.drawn - W.drawn, w'.heap.extract W.heap.size w'.heap.size, ?_⟩
 have hh : w'.heap = W.heap ++ w'.heap.extract W.heap.size w'.heap.size := by
  apply Array.ext_getElem?
  intro k
  by_cases hk : k < W.heap.size
  ·rw [Array.getElem?_append_left hk]; exact h.block k hk
  ·rw [Array.getElem?_append_right (by omega), Array.getElem?_extract]
   have := h.size
   by_cases h2 : k < w'.heap.size
   ·rw [if_pos (by omega)]; congr 1; omega
   ·rw [if_neg (by omega), Array.getElem?_eq_none (by omega)]
 have hd := h.drawn
 have h1 := h.os
 have h2 := h.tape
 have h3 := h.output
 have e : ∀ (a b : World), a.heap = b.heap → a.tape = b.tape → a.drawn = b.drawn → a.os = b.os → a.output = b.output → a = b := by
  intro a b h1 h2 h3 h4 h5
  cases a; cases b
  simp only at h1 h2 h3 h4 h5
  subst h1 h2 h3 h4 h5; rfl
 refine e _ _ hh h2 ?_ h1 h3
 show w'.drawn = W.drawn + (w'.drawn - W.drawn)
 omega
theorem cmp_lays {g : Gh} {B : Nat} {H : Heap} {w : World} (h : WRel g B H w) (S : Nat → List Int) (b size : Nat) (hfz : ∀ o, g.fz b o = none) (hfm : g.fm b = none) {α : Type} [Inhabited α] (nm : α → Nat) (enc : α → Value) (hv : ∀ x, VRel g (iL (S (nm x))) (enc x)) :
  ∀ (m : Nat) (os : Array Obj) (dk : Array α), dk.size = size → ∀ x y : α,
  Calls Tryz.prog 213 (#[enc x, enc y] ++ #[]) (Sort.grow (Sort.putRow enc (Sort.ahead w m) b 0 dk) os) fun e w' => e = .returned (.int .i64 (cmp (S (nm x)) (S (nm y)))) ∧ ∃ q os', w' = Sort.grow ((Sort.grow (Sort.putRow enc (Sort.ahead w m) b 0 dk) os).drewN q) os' := by
 intro m os dk hs x y
 have hW := h.other b hfz hfm fun k hk hl => row_other enc w b 0 m dk os k hk hl
 generalize (Sort.grow (Sort.putRow enc (Sort.ahead w m) b 0 dk) os) = W at hW ⊢
 have hc := (cmp2_ok W.heap.size (S (nm x)) (S (nm y))).run []
 refine (hc.2 g W _ hW ⟨rfl, fun i hi => ?_⟩).mono ?_
 ·obtain rfl | rfl : i = 0 ∨ i = 1 := by simp only [List.length_cons, List.length_nil] at hi; omega
  ·exact hv x
  ·exact hv y
 rintro e w' ⟨v, rfl, g', r, H', _, ⟨rfl, rfl⟩, hv2, _, hb⟩
 cases hv2
 exact ⟨rfl, below_grow hb⟩
end Go.AW
namespace Go.AW
open Go.Proofs Go.Proofs.Shf Go.Shf Go.RowKit
theorem WRel.sorted {g : Gh} {B : Nat} {H : Heap} {w : World} (h : WRel g B H w) {id b cap : Nat} {cs cs' : List AV} {c : Array Value} {el : TypeId} {α : Type} [Inhabited α] (enc : α → Value) (dk : Array α)
  (hi : H.get id = some (.cells 1 cs 0)) (hp : g.io id = some (.blk b cap)) (hb : w.heap[b]? = some (.cells c el (0, 0))) (hd : dk.size = cs.length) (hl : cs'.length = cs.length)
  (hv : ∀ k, k < cs'.length → VRel g (cs'.getD k nv) (enc dk[k]!)) (n : Nat) (os : Array Obj) :
  WRel g B (H.set id (.cells 1 cs' 0)) (Sort.grow (Sort.putRow enc (Sort.ahead w n) b 0 dk) os) ∧ Below B w (Sort.grow (Sort.putRow enc (Sort.ahead w n) b 0 dk) os) := by
 obtain ⟨p, hp', hr⟩ := h.ob id _ hi
 rw [hp] at hp'; cases hp'
 simp only [ObjRel] at hr
 obtain ⟨h1, h2, h3, h4, c0, el0, h5, h6, h7, h8⟩ := hr
 rw [hb] at h5; cases h5
 have hbl : b < w.heap.size := (Array.getElem?_eq_some_iff.1 hb).1
 have hsz : (Sort.putRow enc w b 0 dk).heap.size = w.heap.size := by simp [Sort.putRow, Sort.mapBlock]
 have hc' : (Sort.putRow enc w b 0 dk).heap[b]? = some (.cells (Sort.putCells enc 0 dk c) el (0, 0)) := by
  show (w.heap.modify b _)[b]? = _
  rw [Array.getElem?_modify, if_pos rfl, hb]; rfl
 have hcs : (Sort.putCells enc 0 dk c).size = c.size := by simp [Sort.putCells]
 have hcell : ∀ k, k < dk.size → (Sort.putCells enc 0 dk c).getD k undef = enc dk[k]! := by
  intro k hk
  have hk2 : k < c.size := by omega
  have hk3 : k < (Sort.putCells enc 0 dk c).size := by omega
  simp only [Array.getD, hk3, dif_pos]
  simp [Sort.putCells, hk]
 have hW := h.write id b cap 1 cs cs' 0 c (Sort.putCells enc 0 dk c) el hi hp hb hc' hsz (fun k hk => by
  show (w.heap.modify b _)[k]? = _
  rw [Array.getElem?_modify, if_neg (by omega)]) hcs (by omega) (by omega) (by omega) (by omega) fun k hk => by
   rw [hcell k (by omega)]; exact hv k hk
 have hsame : ∀ k, k < w.heap.size → (Sort.grow (Sort.putRow enc (Sort.ahead w n) b 0 dk) os).heap[k]? = (Sort.putRow enc w b 0 dk).heap[k]? := by
  intro k hk
  rw [row_heap, Array.getElem?_append_left (by simpa using hk)]; rfl
 refine ⟨hW.grow ?_ fun k hk => hsame k (by omega), rfl, rfl, rfl, ?_, fun k hk => ?_, ?_⟩
 ·rw [row_heap, hsz]; simp
 ·rw [row_heap]; simp
 ·rw [hsame k (by omega)]
  show (w.heap.modify b _)[k]? = _
  rw [Array.getElem?_modify, if_neg (by omega)]
 ·show w.drawn ≤ w.drawn + n
  omega
end Go.AW
namespace Go.AW
open Go.Proofs Go.Proofs.Shf Go.Shf Go.RowKit
def LibSort (n : Nat) [Inhabited (Fin n)] (cf : Fin n → Fin n → Int) : Prop :=
 ∀ (b cap : Nat) (w : World) (enc : Fin n → Value), (∀ x, (enc x).oneCell' = true) →
  (∀ (m : Nat) (os : Array Obj) (dk : Array (Fin n)), dk.size = (Array.ofFn fun i : Fin n => i).size → ∀ x y : Fin n,
   Calls Tryz.prog 213 (#[enc x, enc y] ++ #[]) (Sort.grow (Sort.putRow enc (Sort.ahead w m) b 0 dk) os) fun e w' => e = .returned (.int .i64 (cf x y)) ∧ ∃ q os', w' = Sort.grow ((Sort.grow (Sort.putRow enc (Sort.ahead w m) b 0 dk) os).drewN q) os') →
  Sort.Holds enc w b 0 (Array.ofFn fun i : Fin n => i) → b < w.heap.size →
  Calls Tryz.prog 212 #[.slice (some ⟨b, 0, none⟩) (Array.ofFn fun i : Fin n => i).size cap, .func (.func 213) #[] #[]] w fun e w' =>
   e = .returned (.tuple #[]) ∧ ∃ d' m os, Sort.PermIn 0 (Array.ofFn fun i : Fin n => i).size (Array.ofFn fun i : Fin n => i) d' ∧ Sort.SortedIn (fun x y => decide (cf x y < 0)) 0 (Array.ofFn fun i : Fin n => i).size d' ∧ w' = Sort.grow (Sort.putRow enc (Sort.ahead w m) b 0 d') os
theorem sl_one {g : Gh} {l : List AV} {u : Value} (h : VRel g (.sl l) u) : u.oneCell' = true := by
 cases h <;> rfl
theorem sort_own (B : Nat) (S : List (List Int)) [Inhabited (Fin S.length)] (nd : S.Nodup) (hlib : LibSort S.length fun x y => cmp (S.getD x default) (S.getD y default)) (hent : Enters Tryz.prog 212) {H0 H : Heap} {l : List (Nat × MObj)} {id : Nat} {K : Kont}
  (o : Owns H0 H ((id, .cells 1 (S.map iL) 0) :: l)) (hk : ∀ (H' : Heap) (S' : List (List Int)), S'.Perm S → (S'.Pairwise fun s t => cmp s t < 0) → Owns H0 H' ((id, .cells 1 (S'.map iL) 0) :: l) → K (.tup []) H') :
  CallH Tryz.prog B 212 [.buf id S.length, .fn (.func 213) []] H K := by
 refine ⟨hent, fun g w vs hW hv => ?_⟩
 have hS0 : 0 < S.length := (default : Fin S.length).pos
 have h0 := o.h0
 simp only at h0
 obtain ⟨p, hp, hr⟩ := hW.ob id _ h0
 cases p with
 | nil => simp only [ObjRel] at hr; have := hr.1; simp at this; rw [this] at hS0; simp at hS0
 | mp b => simp [ObjRel] at hr
 | blk b cap =>
  simp only [ObjRel] at hr
  obtain ⟨r1, r2, r3, r4, c, el, r5, r6, r7, r8⟩ := hr
  rw [List.length_map] at r7 r8
  obtain ⟨hv0, hv1⟩ := hv
  obtain ⟨v0, v1, rfl⟩ : ∃ v0 v1, vs = #[v0, v1] := by
   rcases vs with ⟨l⟩
   simp only [List.length_cons, List.length_nil] at hv0
   match l, hv0 with
   | [a, b], _ => exact ⟨a, b, rfl⟩
  have e0 : VRel g (.buf id S.length) v0 := hv1 0 (by simp)
  have e1 : VRel g (.fn (.func 213) []) v1 := hv1 1 (by simp)
  have hv0' : ∃ cap', v0 = .slice (some ⟨b, 0, none⟩) S.length cap' := by
   generalize hn : S.length = n at *
   cases e0 with
   | bufnil _ hq => rw [hq] at hp; cases hp
   | buf _ _ b' cap' hq => rw [hq] at hp; cases hp; exact ⟨_, rfl⟩
  obtain ⟨cap', rfl⟩ := hv0'
  have hv1' : v1 = .func (.func 213) #[] #[] := by
   cases e1 with
   | fn _ _ vs hs _ =>
    have : vs = #[] := Array.eq_empty_of_size_eq_zero (by simpa using hs)
    rw [this]
  subst hv1'
  have hsz : (Array.ofFn fun i : Fin S.length => i).size = S.length := by simp
  have hbl : b < w.heap.size := (Array.getElem?_eq_some_iff.1 r5).1
  have hfm : g.fm b = none := by
   cases e : g.fm b with
   | none => rfl
   | some es => obtain ⟨clk, h⟩ := hW.fm _ _ e; rw [r5] at h; cases h
  have henc : ∀ x : Fin S.length, VRel g (iL (S.getD x default)) (c.getD x undef) := fun x => by
   have := r8 x x.2; rw [getD_map S x.2] at this; exact this
  have hl := hlib b cap' w (fun x => c.getD x undef) (fun x => by
   have := henc x
   exact sl_one this) (cmp_lays hW (fun i => S.getD i default) b _ (fun o => r4 o (Nat.zero_le _)) hfm (fun x : Fin S.length => x.val) _ henc) (fun j hj => ?_) hbl
  ·rw [hsz] at hl
   refine hl.mono ?_
   rintro e w' ⟨rfl, d', m, os, hp2, hs2, rfl⟩
   have hd' : d'.size = S.length := by rw [hp2.1, hsz]
   have hperm : d'.toList.Perm (Array.ofFn fun i : Fin S.length => i).toList := by
    have := hp2.2.2
    rw [Array.extract_eq_self_of_le (by omega), Array.extract_eq_self_of_le (by omega)] at this
    exact this
   have hmap : (Array.ofFn fun i : Fin S.length => i).toList.map (fun i : Fin S.length => S.getD i default) = S := by
    apply List.ext_getElem (by simp)
    intro i h1 h2
    simp [List.getD_eq_getElem?_getD, h2]
   have hSp : (d'.toList.map fun i : Fin S.length => S.getD i default).Perm S := by
    have := hperm.map fun i : Fin S.length => S.getD i default
    rwa [hmap] at this
   have hget : ∀ k (hk : k < d'.size), d'[k]! = d'[k] := fun k hk => getElem!_pos d' k hk
   have hpw : (d'.toList.map fun i : Fin S.length => S.getD i default).Pairwise fun s t => cmp s t < 0 := by
    rw [List.pairwise_iff_getElem]
    intro i j hi hj hij
    rw [List.length_map, Array.length_toList] at hi hj
    have h1 := hs2 i j (Nat.zero_le _) hij (by omega)
    rw [hget i hi, hget j hj] at h1
    have h2 : ¬ cmp (S.getD d'[j] default) (S.getD d'[i] default) < 0 := of_decide_eq_false h1
    have hne := (hSp.nodup_iff.mpr nd)
    rw [List.nodup_iff_pairwise_ne, List.pairwise_iff_getElem] at hne
    have h3 := hne i j (by simpa using hi) (by simpa using hj) hij
    simp only [List.getElem_map, Array.getElem_toList] at h3 ⊢
    have h4 := cmp_neg (S.getD d'[i] default) (S.getD d'[j] default)
    have h5 : cmp (S.getD d'[i] default) (S.getD d'[j] default) ≠ 0 := fun e => h3 (cmp_zero.mp e)
    show cmp (S.getD d'[i] default) (S.getD d'[j] default) < 0
    generalize cmp (S.getD d'[i] default) (S.getD d'[j] default) = A at *
    generalize cmp (S.getD d'[j] default) (S.getD d'[i] default) = C at *
    omega
   obtain ⟨q1, q2⟩ := hW.sorted (fun x : Fin S.length => c.getD x undef) d' h0 hp r5 (by rw [hd']; simp) (cs' := (d'.toList.map fun i : Fin S.length => S.getD i default).map iL) (by simp [hd']) (fun k hk => by
    rw [List.length_map, List.length_map, Array.length_toList] at hk
    rw [hget k hk]
    have : ((d'.toList.map fun i : Fin S.length => S.getD i default).map iL).getD k nv = iL (S.getD d'[k] default) := by simp [List.getD_eq_getElem?_getD, hk]
    rw [this]; exact henc _) m os
   exact ⟨_, rfl, g, .tup [], _, .refl g, hk _ _ hSp hpw (o.put _), .tup [] #[] rfl (by simp), q1, q2⟩
  ·rw [hsz] at hj
   have hjc : j < c.size := by omega
   refine ⟨?_, ?_⟩
   ·simp [World.cell?, r5, hjc, hj]
   ·simp [World.frozen?, r5]
end Go.AW
namespace Go.Proofs.Shf
open Go.AW Go.Proofs Go.Shf
theorem closeS_nil {c : Cat} {x : Int} : c.Sieve x [] := ⟨by simp [Rising], by simp, by simp, by simp⟩
structure WorkL (c : Cat) (x : Int) (S : List (List Int)) (k j : Nat) : Prop where
 z : [] ∈ S
 nd : S.Nodup
 sv : ∀ t, t ∈ S → c.Sieve x t
 dn : ∀ i, i < k → ∀ a, a ∈ outs c x → closeS c (S.getD i default ++ [a]) ∈ S
 pt : ∀ i, i < j → i < (outs c x).length → closeS c (S.getD k default ++ [(outs c x).getD i default]) ∈ S
def LibSorts : Prop := Go.AW.Enters Tryz.prog 212 ∧ ∀ (S : List (List Int)) [Inhabited (Fin S.length)], S.length ≤ 16 → LibSort S.length fun x y => cmp (S.getD x default) (S.getD y default)
open Classical in
theorem sieves_ok (B : Nat) (hlib : LibSorts) (c : Cat) (hc : c.Is) (x : Nat) (hx : x < c.objs.toNat) : Pur Tryz.prog B 102 [.ptr c.cells, .int .i64 x] (.tup [iLL (if Few c x then allS c x else []), .bool (dec (Few c x))]) := by
 refine ⟨fun H0 => c102p (by simp) fun hfi => ?_⟩
 have hm := hc.1.m
 have hob := hc.1.o
 have htl := hc.1.tol
 have hLl : (outs c x).length ≤ 40 := by
  rw [outs, List.length_map]
  refine Nat.le_trans (List.length_filter_le _ _) ?_
  rw [List.length_range]; omega
 have hLm : ∀ a, a ∈ outs c x → (0 ≤ a ∧ a.toNat < c.frm.length) ∧ ix c.frm a = x := fun a ha => by have := mem_outs.mp ha; exact ⟨⟨this.1, this.2.1⟩, this.2.2⟩
 unfold s102p
 try simp only [go_sem, reduceAdd]
 refine newBuf_own (.nil _) fun id6 H o => ?_
 try simp only [go_sem]
 refine awp_while [0, 1] (fun (g : Nat × List (List Int) × Nat) => [(6, some (.buf g.1 g.2.1.length)), (7, some (.int .i64 (g.2.2 : Int)))])
  (fun m g H => m = 16 - g.2.2 ∧ g.2.2 ≤ g.2.1.length ∧ g.2.1.length ≤ 16 ∧ WorkL c x g.2.1 g.2.2 0 ∧ Owns H0 H [(g.1, .cells 1 (g.2.1.map iL) 0)]) 16 (id6, [[]], 0)
  ⟨rfl, by simp, by simp, ⟨by simp, by simp, fun t ht => by
   rw [List.mem_singleton] at ht; subst ht
   exact closeS_nil, by simp, by simp⟩, o⟩ rfl ?_
 clear o
 rintro m ⟨id6, S, k⟩ H ⟨rfl, hkl, hS16, hW, o⟩
 replace hkl : k ≤ S.length := hkl
 replace hS16 : S.length ≤ 16 := hS16
 replace hW : WorkL c x S k 0 := hW
 replace o : Owns H0 H [(id6, .cells 1 (S.map iL) 0)] := o
 try simp only [go_sem]
 refine ⟨fun h1 => At.mk ?_, fun h1 => At.mk ?_⟩
 ·have h1p := of_decide h1
  have w := wsucc (k := k) (by omega)
  try simp only [go_sem]
  refine (outOf_ok B c x).go fun _ => ?_
  generalize hL : outs c x = L at *
  try simp only [go_sem]
  refine awp_for [0, 1, 7, 21, 22] (G := Nat × List (List Int)) (fun j g => [(6, some (.buf g.1 g.2.length)), (23, some (.int .i64 (j : Int)))])
   (fun j g H => k < g.2.length ∧ g.2.length ≤ 16 ∧ WorkL c x g.2 k j ∧ Owns H0 H [(g.1, .cells 1 (g.2.map iL) 0)]) L.length (id6, S) ⟨h1p, hS16, hW, o⟩ rfl ?_
  clear o hkl hS16 hW h1 h1p
  rintro j ⟨id6, S⟩ H hj ⟨hkl, hS16, hW, o⟩
  replace hkl : k < S.length := hkl
  replace hS16 : S.length ≤ 16 := hS16
  replace hW : WorkL c x S k j := hW
  replace o : Owns H0 H [(id6, .cells 1 (S.map iL) 0)] := o
  try simp only [go_sem]
  refine ⟨fun h2 => At.mk ?_, fun h2 => At.mk ?_⟩
  ·have h2p := of_decide h2
   have w2 := wsucc (k := j) (by omega)
   try simp only [go_sem]
   refine ⟨h2p, hkl, rd_inner (f := iL) o.h0 hkl ?_⟩
   generalize ha : L.getD j default = a at *
   generalize ht : S.getD k default = t at *
   have htm : t ∈ S := by rw [← ht]; exact mem_getD.mpr ⟨k, hkl, rfl⟩
   have ham : a ∈ L := by rw [← ha]; exact mem_getD.mpr ⟨j, h2p, rfl⟩
   have hts := hW.sv t htm
   have htl2 := hts.len
   try simp only [go_sem]
   refine (clone_own B t H0 H _ o).own fun idc A H o hA => ?_
   rw [hA] at o ⊢
   try simp only [go_sem, reduceAdd]
   refine app_own (f := iI) a o rfl rfl (by simp only [maxL]; omega) fun idc H o => ?_
   try simp only [go_sem]
   refine call_fz 1 rfl o rfl fun H o => ?_
   try simp only [go_sem]
   have hta : ∀ b, b ∈ t ++ [a] → (0 ≤ b ∧ b.toNat < c.frm.length) ∧ ix c.frm b = x := fun b hb => by
    rw [List.mem_append, List.mem_singleton] at hb
    rcases hb with hb | rfl
    ·exact hts.arr hb
    ·exact hLm _ ham
   refine (sieveOf_ok B c hc.1 (t ++ [a]) (fun b hb => (hta b hb).1)).go fun _ => ?_
   have hss := closeS_sieve hc hta
   generalize hs : closeS c (t ++ [a]) = s at *
   try simp only [go_sem, reduceAdd]
   refine newRef_own o fun id10 H o => ?_
   try simp only [go_sem]
   refine stc o fun H o => ?_
   simp only [wr_cons, wr_nil, List.set_cons_zero, List.set_cons_succ] at o
   try simp only [go_sem]
   refine wk_ref 10 o rfl fun H o => wkW_done ?_
   try simp only [go_sem]
   refine CallH.lentPure (es := [iLL S, .fn (.func 211) [.ptr [iL s]]]) (.bool _) rfl (fun i hi => ?_) (containsFunc_ok B S s).run ?_
   ·obtain rfl | rfl : i = 0 ∨ i = 1 := by simp only [List.length_cons, List.length_nil] at hi; omega
    ·exact lent_arg o rfl
    ·exact val_arg _
   by_cases hin : s ∈ S
   ·rw [dec_t hin]
    try simp only [go_sem, w2]
    refine for_next (id6, S) h2p ⟨hkl, hS16, ⟨hW.z, hW.nd, hW.sv, hW.dn, fun i hi hiL => ?_⟩, o⟩ rfl
    by_cases e : i = j
    ·subst e; rw [hL, ha, ht, hs]; exact hin
    ·exact hW.pt i (by omega) hiL
   ·rw [dec_f hin]
    try simp only [go_sem]
    refine ⟨fun h3 => At.mk ?_, fun h3 => At.mk ?_⟩
    ·have h3p : S.length = 16 := by have := of_decide h3; omega
     try simp only [go_sem]
     refine pure_ret ?_ o.sub
     have hnf : ¬ Few c x := ?_
     ·rw [dec_f hnf, if_neg hnf]; rfl
     ·refine Few.no (M := S ++ [s]) ?_ ?_ (by simp; omega)
      ·rw [List.nodup_append]
       refine ⟨hW.nd, by simp, fun a ha b hb => ?_⟩
       rw [List.mem_singleton] at hb
       rintro rfl; rw [hb] at ha; exact hin ha
      ·intro u hu
       rw [List.mem_append, List.mem_singleton] at hu
       rcases hu with hu | rfl
       ·exact hW.sv u hu
       ·exact hss
    ·try simp only [go_sem, reduceAdd]
     have h3p : ¬ S.length = 16 := fun e => by rw [e] at h3; simp at h3
     have hgd : ∀ i, i < S.length → (S ++ [s]).getD i default = S.getD i default := fun i hi => by
      simp [List.getD_eq_getElem?_getD, List.getElem?_append_left hi]
     refine app_own (f := iL) s o rfl rfl (by simp only [maxL]; omega) fun id6 H o => ?_
     try simp only [go_sem, w2]
     refine for_next (id6, S ++ [s]) h2p ⟨by simp; omega, by simp; omega, ⟨by simp [hW.z], ?_, fun u hu => ?_, fun i hi b hb => ?_, fun i hi hiL => ?_⟩, o⟩ rfl
     ·rw [List.nodup_append]
      refine ⟨hW.nd, by simp, fun a ha b hb => ?_⟩
      rw [List.mem_singleton] at hb
      rintro rfl; rw [hb] at ha; exact hin ha
     ·rw [List.mem_append, List.mem_singleton] at hu
      rcases hu with hu | rfl
      ·exact hW.sv u hu
      ·exact hss
     ·rw [hgd i (by omega)]
      exact List.mem_append_left _ (hW.dn i hi b hb)
     ·rw [hgd k hkl]
      by_cases e : i = j
      ·subst e; rw [hL, ha, ht, hs]; simp
      ·exact List.mem_append_left _ (hW.pt i (by omega) hiL)
  ·have h2p := of_ndecide h2
   try simp only [go_sem]
   refine ⟨16 - (k + 1), _, H, by omega, ⟨(id6, S, k + 1), ⟨rfl, by simp only; omega, hS16, ⟨hW.z, hW.nd, hW.sv, fun i hi b hb => ?_, by simp⟩, o⟩, rfl⟩, by rw [w]; exact .refl _ _⟩
   replace hi : i < k + 1 := hi
   by_cases e : i = k
   ·subst e
    rw [hL] at hb
    obtain ⟨n, hn, rfl⟩ := mem_getD.mp hb
    have hnj : n < j := Nat.lt_of_lt_of_le hn (Nat.le_of_not_lt h2p)
    have := hW.pt n hnj (by rw [hL]; exact hn)
    rw [hL] at this; exact this
   ·exact hW.dn i (by omega) b hb
 ·have h1p := of_ndecide h1
  try simp only [go_sem]
  have hall := all_sieves hc hW.z hW.sv fun t ht a ha => by
   obtain ⟨i, hi, rfl⟩ := mem_getD.mp ht
   exact hW.dn i (by omega) a ha
  have hpos : 0 < S.length := List.length_pos_of_mem hW.z
  letI : Inhabited (Fin S.length) := ⟨⟨0, hpos⟩⟩
  refine sort_own B S hW.nd (hlib.2 S hS16) hlib.1 o fun H S' hp hs o => ?_
  have hia : IsAll c x S' := ⟨hs, fun s => by rw [hp.mem_iff]; exact ⟨hW.sv s, hall s⟩⟩
  have hfew : Few c x := ⟨S', hia, by rw [hp.length_eq]; exact hS16⟩
  have hS' : S' = allS c x := hia.uniq (allS_is hfew).1
  try simp only [go_sem]
  refine fz_own o hp.length_eq.symm fun H o => ?_
  try simp only [go_sem]
  exact pure_ret (by rw [dec_t hfew, if_pos hfew, hS']) o.sub
end Go.Proofs.Shf
namespace Go.Shf
open Go.AW
end Go.Shf
namespace Go.Proofs.Shf
open Go.AW Go.Proofs Go.Shf
theorem dTrue {p : Decidable True} : @decide True p = true := @decide_eq_true True p trivial
end Go.Proofs.Shf
namespace Go.Proofs.Shf
open Go.AW Go.Proofs Go.Shf
theorem same29_ok (B : Nat) (a b : List (List Int)) : Pur Tryz.prog B 14 [iLL a, iLL b] (.bool (dec (a = b))) := by
 refine ⟨fun H0 => c14 (by simp) fun ⟨hf, hg, _⟩ => ?_⟩
 have hl := fine_mL_le hf
 have hl2 := fine_mL_le hg
 simp only [maxL] at hl hl2
 unfold s14
 try simp only [go_sem, reduceAdd]
 refine ⟨fun h0 => At.mk ?_, fun h0 => At.mk ?_⟩
 ·try simp only [go_sem]
  have h0p : a.length ≠ b.length := by simpa using h0
  exact pure_ret (by rw [dec_f]; rintro rfl; exact h0p rfl) (.refl _)
 have h0p : a.length = b.length := by simpa using h0
 try simp only [go_sem]
 refine awp_for [0, 1] (fun k _ => [(5, some (.int .i64 (k : Int)))]) (fun k _ H => H = H0 ∧ ∀ i, i < k → a.getD i default = b.getD i default) a.length () ⟨rfl, by simp⟩ rfl ?_
 rintro k _ H hk ⟨rfl, hall⟩
 try simp only [go_sem]
 refine ⟨fun h1 => At.mk ?_, fun h1 => At.mk ?_⟩
 ·have h1 := of_decide h1
  have w1 := wsucc (k := k) (by omega)
  try simp only [go_sem]
  refine ⟨h1, by omega, ?_⟩
  refine ⟨_, (likeInts_ok B (a.getD k default) (b.getD k default)).run, ?_⟩
  by_cases h2 : a.getD k default = b.getD k default
  ·rw [dec_t h2]
   try simp only [go_sem, w1]
   exact for_next () (by omega) ⟨rfl, lt_succ_all hall h2⟩ rfl
  ·rw [dec_f h2]
   try simp only [go_sem]
   exact pure_ret (by rw [dec_f]; rintro rfl; exact h2 rfl) (.refl _)
 ·try simp only [go_sem]
  have h1 := of_ndecide h1
  refine pure_ret ?_ (.refl _)
  rw [dec_t]
  refine List.ext_getElem h0p fun i hi hj => ?_
  have := hall i (by omega)
  simpa [List.getD_eq_getElem?_getD, hi, hj] using this
theorem sameCat9_ok (B : Nat) (a b : Cat) : Pur Tryz.prog B 138 [.agg a.cells, .agg b.cells] (.bool (dec (a = b))) := by
 refine ⟨fun H0 => c138 (by simp) fun _ => ?_⟩
 unfold s138
 obtain ⟨o1, f1, t1, i1, c1⟩ := a
 obtain ⟨o2, f2, t2, i2, c2⟩ := b
 try simp only [go_sem, reduceAdd, reduceLeDiff]
 refine ⟨fun h1 => At.mk ?_, fun h1 => At.mk ?_⟩
 rotate_left 1
 ·try simp only [go_sem, h1]
  have h1p := of_ndecide h1
  exact pure_ret (by rw [dec_f]; intro e; injection e with e1; exact h1p e1) (.refl _)
 have h1p : o1 = o2 := of_decide h1
 subst h1p
 try simp only [go_sem, reduceAdd, reduceLeDiff, dTrue]
 refine (likeInts_ok B f1 f2).go fun _ => ?_
 by_cases h2 : f1 = f2
 rotate_left 1
 ·rw [dec_f h2]
  try simp only [go_sem]
  exact pure_ret (by rw [dec_f]; intro e; injection e with _ e1; exact h2 e1) (.refl _)
 subst h2
 rw [dec_t rfl]
 try simp only [go_sem, reduceAdd, reduceLeDiff]
 refine (likeInts_ok B t1 t2).go fun _ => ?_
 by_cases h3 : t1 = t2
 rotate_left 1
 ·rw [dec_f h3]
  try simp only [go_sem]
  exact pure_ret (by rw [dec_f]; intro e; injection e with _ _ e1; exact h3 e1) (.refl _)
 subst h3
 rw [dec_t rfl]
 try simp only [go_sem, reduceAdd, reduceLeDiff]
 refine (likeInts_ok B i1 i2).go fun _ => ?_
 by_cases h4 : i1 = i2
 rotate_left 1
 ·rw [dec_f h4]
  try simp only [go_sem]
  exact pure_ret (by rw [dec_f]; intro e; injection e with _ _ _ e1; exact h4 e1) (.refl _)
 subst h4
 rw [dec_t rfl]
 try simp only [go_sem, reduceAdd, reduceLeDiff]
 refine (same29_ok B c1 c2).go fun _ => ?_
 try simp only [go_sem]
 exact pure_ret (by congr 1; exact dec_congr ⟨fun e => by rw [e], fun e => by injection e⟩) (.refl _)
theorem sameSets9_ok (B : Nat) (a b : SF) : Pur Tryz.prog B 52 [.agg a.cells, .agg b.cells] (.bool (dec (a = b))) := by
 refine ⟨fun H0 => c52 (by simp) fun _ => ?_⟩
 unfold s52
 obtain ⟨c1, z1, a1⟩ := a
 obtain ⟨c2, z2, a2⟩ := b
 try simp only [go_sem, reduceAdd, reduceLeDiff]
 refine (sameCat9_ok B c1 c2).go fun _ => ?_
 by_cases h2 : c1 = c2
 rotate_left 1
 ·rw [dec_f h2]
  try simp only [go_sem]
  exact pure_ret (by rw [dec_f]; intro e; injection e with e1; exact h2 e1) (.refl _)
 subst h2
 rw [dec_t rfl]
 try simp only [go_sem, reduceAdd, reduceLeDiff]
 refine (likeInts_ok B z1 z2).go fun _ => ?_
 by_cases h3 : z1 = z2
 rotate_left 1
 ·rw [dec_f h3]
  try simp only [go_sem]
  exact pure_ret (by rw [dec_f]; intro e; injection e with _ e1; exact h3 e1) (.refl _)
 subst h3
 rw [dec_t rfl]
 try simp only [go_sem, reduceAdd, reduceLeDiff]
 refine (same29_ok B a1 a2).go fun _ => ?_
 try simp only [go_sem]
 exact pure_ret (by congr 1; exact dec_congr ⟨fun e => by rw [e], fun e => by injection e⟩) (.refl _)
theorem sameMap9_ok (B : Nat) (a b : SM) : Pur Tryz.prog B 49 [.agg a.cells, .agg b.cells] (.bool (dec (a = b))) := by
 refine ⟨fun H0 => c49 (by simp) fun _ => ?_⟩
 unfold s49
 obtain ⟨s1, t1, p1⟩ := a
 obtain ⟨s2, t2, p2⟩ := b
 try simp only [go_sem, reduceAdd, reduceLeDiff]
 refine (sameSets9_ok B s1 s2).go fun _ => ?_
 by_cases h2 : s1 = s2
 rotate_left 1
 ·rw [dec_f h2]
  try simp only [go_sem]
  exact pure_ret (by rw [dec_f]; intro e; injection e with e1; exact h2 e1) (.refl _)
 subst h2
 rw [dec_t rfl]
 try simp only [go_sem, reduceAdd, reduceLeDiff]
 refine (sameSets9_ok B t1 t2).go fun _ => ?_
 by_cases h3 : t1 = t2
 rotate_left 1
 ·rw [dec_f h3]
  try simp only [go_sem]
  exact pure_ret (by rw [dec_f]; intro e; injection e with _ e1; exact h3 e1) (.refl _)
 subst h3
 rw [dec_t rfl]
 try simp only [go_sem, reduceAdd, reduceLeDiff]
 refine (same29_ok B p1 p2).go fun _ => ?_
 try simp only [go_sem]
 exact pure_ret (by congr 1; exact dec_congr ⟨fun e => by rw [e], fun e => by injection e⟩) (.refl _)
end Go.Proofs.Shf
