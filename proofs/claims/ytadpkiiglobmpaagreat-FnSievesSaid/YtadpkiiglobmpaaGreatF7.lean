/- A part of a proof. -/
import Derived.Test.YtadpkiiglobmpaaGreatF6
import Derived.Sort.Row
import Derived.Sort.Grow
import Derived.Deep.Draws
import Derived.Test.YtadpkiiglobmpaaGreatProg
import Derived.Tactics
import Derived.Tactics2
import Derived.Defers
import Derived.Laws.Pointers
import Derived.Laws.LoneSync
import Derived.RegionTactic
import Derived.RegionCalls
import Derived.ChangeAlike
set_option linter.unusedVariables false
set_option linter.unusedSimpArgs false
set_option linter.unusedSectionVars false
open Nat (reduceEqDiff reduceAdd reduceMul reduceLeDiff reduceLT)
namespace Go.Proofs.Shf
open Go.AW Go.Proofs Go.Shf
end Go.Proofs.Shf
namespace Go.Proofs.Shf
open Go.AW Go.Proofs Go.Shf
end Go.Proofs.Shf
namespace Go.Proofs.Shf
open Go.AW Go.Proofs Go.Shf
end Go.Proofs.Shf
namespace Go.AW
open Go.Proofs Go.Proofs.Shf Go.Shf Go.RowKit
theorem WRel.other {g : Gh} {B : Nat} {H : Heap} {w w' : World} (h : WRel g B H w) (b : Nat) (hfz : ∀ o, g.fz b o = none) (hfm : g.fm b = none) (hk : ∀ k, k ≠ b → k < w.heap.size → w'.heap[k]? = w.heap[k]?) : WRel g w'.heap.size [] w' := by
  constructor
  · intro b' o v e
    have hl := h.fz_lt e
    have hne : b' ≠ b := by rintro rfl; rw [hfz] at e; cases e
    rw [World.cell?_of_block (w := w) (a := ⟨b', o, none⟩) (hk b' hne hl)]; exact h.fz _ _ _ e
  · intro b' es e
    have hl := h.fm_lt e
    have hne : b' ≠ b := by rintro rfl; rw [hfm] at e; cases e
    obtain ⟨clk, hc⟩ := h.fm _ _ e
    exact ⟨clk, by rw [hk b' hne hl]; exact hc⟩
  · intro i o e; cases e
  · intro i j x c c' n e1; cases e1
  · intro i j x n e1; cases e1
  · exact Nat.le_refl _
  · exact h.fin
theorem row_heap {α : Type} [Inhabited α] (enc : α → Value) (w : World) (b off m : Nat) (dk : Array α) (os : Array Obj) : (Sort.grow (Sort.putRow enc (Sort.ahead w m) b off dk) os).heap = (w.heap.modify b (Sort.onCells (Sort.putCells enc off dk))) ++ os := rfl
theorem row_other {α : Type} [Inhabited α] (enc : α → Value) (w : World) (b off m : Nat) (dk : Array α) (os : Array Obj) (k : Nat) (hk : k ≠ b) (hl : k < w.heap.size) : (Sort.grow (Sort.putRow enc (Sort.ahead w m) b off dk) os).heap[k]? = w.heap[k]? := by
  rw [row_heap, Array.getElem?_append_left (by simpa using hl), Array.getElem?_modify, if_neg (by omega)]
theorem below_grow {W w' : World} (h : Below W.heap.size W w') : ∃ q os', w' = Sort.grow (W.drewN q) os' := by
  refine ⟨w'.drawn - W.drawn, w'.heap.extract W.heap.size w'.heap.size, ?_⟩
  have hh : w'.heap = W.heap ++ w'.heap.extract W.heap.size w'.heap.size := by
    apply Array.ext_getElem?
    intro k
    by_cases hk : k < W.heap.size
    · rw [Array.getElem?_append_left hk]; exact h.block k hk
    · rw [Array.getElem?_append_right (by omega), Array.getElem?_extract]
      have := h.size
      by_cases h2 : k < w'.heap.size
      · rw [if_pos (by omega)]; congr 1; omega
      · rw [if_neg (by omega), Array.getElem?_eq_none (by omega)]
  have hd := h.drawn
  have h1 := h.os
  have h2 := h.tape
  have h3 := h.output
  have e : ∀ (a b : World), a.heap = b.heap → a.tape = b.tape → a.drawn = b.drawn → a.os = b.os → a.output = b.output → a = b := by
    intro a b h1 h2 h3 h4 h5
    cases a; cases b
    simp only at h1 h2 h3 h4 h5
    subst h1 h2 h3 h4 h5; rfl
  refine e _ _ hh h2 ?_ h1 h3
  show w'.drawn = W.drawn + (w'.drawn - W.drawn)
  omega
theorem cmp_lays {g : Gh} {B : Nat} {H : Heap} {w : World} (h : WRel g B H w) (S : Nat → List Int) (b size : Nat) (hfz : ∀ o, g.fz b o = none) (hfm : g.fm b = none) {α : Type} [Inhabited α] (nm : α → Nat) (enc : α → Value) (hv : ∀ x, VRel g (iL (S (nm x))) (enc x)) :
    ∀ (m : Nat) (os : Array Obj) (dk : Array α), dk.size = size → ∀ x y : α,
    Calls Tryz.prog 213 (#[enc x, enc y] ++ #[]) (Sort.grow (Sort.putRow enc (Sort.ahead w m) b 0 dk) os) fun e w' => e = .returned (.int .i64 (cmp (S (nm x)) (S (nm y)))) ∧ ∃ q os', w' = Sort.grow ((Sort.grow (Sort.putRow enc (Sort.ahead w m) b 0 dk) os).drewN q) os' := by
  intro m os dk hs x y
  have hW := h.other b hfz hfm fun k hk hl => row_other enc w b 0 m dk os k hk hl
  generalize (Sort.grow (Sort.putRow enc (Sort.ahead w m) b 0 dk) os) = W at hW ⊢
  have hc := (cmp2_ok W.heap.size (S (nm x)) (S (nm y))).run []
  refine (hc.2 g W _ hW ⟨rfl, fun i hi => ?_⟩).mono ?_
  · obtain rfl | rfl : i = 0 ∨ i = 1 := by simp only [List.length_cons, List.length_nil] at hi; omega
    · exact hv x
    · exact hv y
  rintro e w' ⟨v, rfl, g', r, H', _, ⟨rfl, rfl⟩, hv2, _, hb⟩
  cases hv2
  exact ⟨rfl, below_grow hb⟩
end Go.AW
namespace Go.AW
open Go.Proofs Go.Proofs.Shf Go.Shf Go.RowKit
theorem WRel.sorted {g : Gh} {B : Nat} {H : Heap} {w : World} (h : WRel g B H w) {id b cap : Nat} {cs cs' : List AV} {c : Array Value} {el : TypeId} {α : Type} [Inhabited α] (enc : α → Value) (dk : Array α)
    (hi : H.get id = some (.cells 1 cs 0)) (hp : g.io id = some (.blk b cap)) (hb : w.heap[b]? = some (.cells c el (0, 0))) (hd : dk.size = cs.length) (hl : cs'.length = cs.length)
    (hv : ∀ k, k < cs'.length → VRel g (cs'.getD k nv) (enc dk[k]!)) (n : Nat) (os : Array Obj) :
    WRel g B (H.set id (.cells 1 cs' 0)) (Sort.grow (Sort.putRow enc (Sort.ahead w n) b 0 dk) os) ∧ Below B w (Sort.grow (Sort.putRow enc (Sort.ahead w n) b 0 dk) os) := by
  obtain ⟨p, hp', hr⟩ := h.ob id _ hi
  rw [hp] at hp'; cases hp'
  simp only [ObjRel] at hr
  obtain ⟨h1, h2, h3, h4, c0, el0, h5, h6, h7, h8⟩ := hr
  rw [hb] at h5; cases h5
  have hbl : b < w.heap.size := (Array.getElem?_eq_some_iff.1 hb).1
  have hsz : (Sort.putRow enc w b 0 dk).heap.size = w.heap.size := by simp [Sort.putRow, Sort.mapBlock]
  have hc' : (Sort.putRow enc w b 0 dk).heap[b]? = some (.cells (Sort.putCells enc 0 dk c) el (0, 0)) := by
    show (w.heap.modify b _)[b]? = _
    rw [Array.getElem?_modify, if_pos rfl, hb]; rfl
  have hcs : (Sort.putCells enc 0 dk c).size = c.size := by simp [Sort.putCells]
  have hcell : ∀ k, k < dk.size → (Sort.putCells enc 0 dk c).getD k undef = enc dk[k]! := by
    intro k hk
    have hk2 : k < c.size := by omega
    have hk3 : k < (Sort.putCells enc 0 dk c).size := by omega
    simp only [Array.getD, hk3, dif_pos]
    simp [Sort.putCells, hk]
  have hW := h.write id b cap 1 cs cs' 0 c (Sort.putCells enc 0 dk c) el hi hp hb hc' hsz (fun k hk => by
    show (w.heap.modify b _)[k]? = _
    rw [Array.getElem?_modify, if_neg (by omega)]) hcs (by omega) (by omega) (by omega) (by omega) fun k hk => by
      rw [hcell k (by omega)]; exact hv k hk
  have hsame : ∀ k, k < w.heap.size → (Sort.grow (Sort.putRow enc (Sort.ahead w n) b 0 dk) os).heap[k]? = (Sort.putRow enc w b 0 dk).heap[k]? := by
    intro k hk
    rw [row_heap, Array.getElem?_append_left (by simpa using hk)]; rfl
  refine ⟨hW.grow ?_ fun k hk => hsame k (by omega), rfl, rfl, rfl, ?_, fun k hk => ?_, ?_⟩
  · rw [row_heap, hsz]; simp
  · rw [row_heap]; simp
  · rw [hsame k (by omega)]
    show (w.heap.modify b _)[k]? = _
    rw [Array.getElem?_modify, if_neg (by omega)]
  · show w.drawn ≤ w.drawn + n
    omega
end Go.AW
namespace Go.AW
open Go.Proofs Go.Proofs.Shf Go.Shf Go.RowKit
def LibSort (n : Nat) [Inhabited (Fin n)] (cf : Fin n → Fin n → Int) : Prop :=
  ∀ (b cap : Nat) (w : World) (enc : Fin n → Value), (∀ x, (enc x).oneCell' = true) →
    (∀ (m : Nat) (os : Array Obj) (dk : Array (Fin n)), dk.size = (Array.ofFn fun i : Fin n => i).size → ∀ x y : Fin n,
      Calls Tryz.prog 213 (#[enc x, enc y] ++ #[]) (Sort.grow (Sort.putRow enc (Sort.ahead w m) b 0 dk) os) fun e w' => e = .returned (.int .i64 (cf x y)) ∧ ∃ q os', w' = Sort.grow ((Sort.grow (Sort.putRow enc (Sort.ahead w m) b 0 dk) os).drewN q) os') →
    Sort.Holds enc w b 0 (Array.ofFn fun i : Fin n => i) → b < w.heap.size →
    Calls Tryz.prog 212 #[.slice (some ⟨b, 0, none⟩) (Array.ofFn fun i : Fin n => i).size cap, .func (.func 213) #[] #[]] w fun e w' =>
      e = .returned (.tuple #[]) ∧ ∃ d' m os, Sort.PermIn 0 (Array.ofFn fun i : Fin n => i).size (Array.ofFn fun i : Fin n => i) d' ∧ Sort.SortedIn (fun x y => decide (cf x y < 0)) 0 (Array.ofFn fun i : Fin n => i).size d' ∧ w' = Sort.grow (Sort.putRow enc (Sort.ahead w m) b 0 d') os
theorem sl_one {g : Gh} {l : List AV} {u : Value} (h : VRel g (.sl l) u) : u.oneCell' = true := by
  cases h <;> rfl
theorem sort_own (B : Nat) (S : List (List Int)) [Inhabited (Fin S.length)] (nd : S.Nodup) (hlib : LibSort S.length fun x y => cmp (S.getD x default) (S.getD y default)) (hent : Enters Tryz.prog 212) {H0 H : Heap} {l : List (Nat × MObj)} {id : Nat} {K : Kont}
    (o : Owns H0 H ((id, .cells 1 (S.map iL) 0) :: l)) (hk : ∀ (H' : Heap) (S' : List (List Int)), S'.Perm S → (S'.Pairwise fun s t => cmp s t < 0) → Owns H0 H' ((id, .cells 1 (S'.map iL) 0) :: l) → K (.tup []) H') :
    CallH Tryz.prog B 212 [.buf id S.length, .fn (.func 213) []] H K := by
  refine ⟨hent, fun g w vs hW hv => ?_⟩
  have hS0 : 0 < S.length := (default : Fin S.length).pos
  have h0 := o.h0
  simp only at h0
  obtain ⟨p, hp, hr⟩ := hW.ob id _ h0
  cases p with
  | nil => simp only [ObjRel] at hr; have := hr.1; simp at this; rw [this] at hS0; simp at hS0
  | mp b => simp [ObjRel] at hr
  | blk b cap =>
    simp only [ObjRel] at hr
    obtain ⟨r1, r2, r3, r4, c, el, r5, r6, r7, r8⟩ := hr
    rw [List.length_map] at r7 r8
    obtain ⟨hv0, hv1⟩ := hv
    obtain ⟨v0, v1, rfl⟩ : ∃ v0 v1, vs = #[v0, v1] := by
      rcases vs with ⟨l⟩
      simp only [List.length_cons, List.length_nil] at hv0
      match l, hv0 with
      | [a, b], _ => exact ⟨a, b, rfl⟩
    have e0 : VRel g (.buf id S.length) v0 := hv1 0 (by simp)
    have e1 : VRel g (.fn (.func 213) []) v1 := hv1 1 (by simp)
    have hv0' : ∃ cap', v0 = .slice (some ⟨b, 0, none⟩) S.length cap' := by
      generalize hn : S.length = n at *
      cases e0 with
      | bufnil _ hq => rw [hq] at hp; cases hp
      | buf _ _ b' cap' hq => rw [hq] at hp; cases hp; exact ⟨_, rfl⟩
    obtain ⟨cap', rfl⟩ := hv0'
    have hv1' : v1 = .func (.func 213) #[] #[] := by
      cases e1 with
      | fn _ _ vs hs _ =>
        have : vs = #[] := Array.eq_empty_of_size_eq_zero (by simpa using hs)
        rw [this]
    subst hv1'
    have hsz : (Array.ofFn fun i : Fin S.length => i).size = S.length := by simp
    have hbl : b < w.heap.size := (Array.getElem?_eq_some_iff.1 r5).1
    have hfm : g.fm b = none := by
      cases e : g.fm b with
      | none => rfl
      | some es => obtain ⟨clk, h⟩ := hW.fm _ _ e; rw [r5] at h; cases h
    have henc : ∀ x : Fin S.length, VRel g (iL (S.getD x default)) (c.getD x undef) := fun x => by
      have := r8 x x.2; rw [getD_map S x.2] at this; exact this
    have hl := hlib b cap' w (fun x => c.getD x undef) (fun x => by
      have := henc x
      exact sl_one this) (cmp_lays hW (fun i => S.getD i default) b _ (fun o => r4 o (Nat.zero_le _)) hfm (fun x : Fin S.length => x.val) _ henc) (fun j hj => ?_) hbl
    · rw [hsz] at hl
      refine hl.mono ?_
      rintro e w' ⟨rfl, d', m, os, hp2, hs2, rfl⟩
      have hd' : d'.size = S.length := by rw [hp2.1, hsz]
      have hperm : d'.toList.Perm (Array.ofFn fun i : Fin S.length => i).toList := by
        have := hp2.2.2
        rw [Array.extract_eq_self_of_le (by omega), Array.extract_eq_self_of_le (by omega)] at this
        exact this
      have hmap : (Array.ofFn fun i : Fin S.length => i).toList.map (fun i : Fin S.length => S.getD i default) = S := by
        apply List.ext_getElem (by simp)
        intro i h1 h2
        simp [List.getD_eq_getElem?_getD, h2]
      have hSp : (d'.toList.map fun i : Fin S.length => S.getD i default).Perm S := by
        have := hperm.map fun i : Fin S.length => S.getD i default
        rwa [hmap] at this
      have hget : ∀ k (hk : k < d'.size), d'[k]! = d'[k] := fun k hk => getElem!_pos d' k hk
      have hpw : (d'.toList.map fun i : Fin S.length => S.getD i default).Pairwise fun s t => cmp s t < 0 := by
        rw [List.pairwise_iff_getElem]
        intro i j hi hj hij
        rw [List.length_map, Array.length_toList] at hi hj
        have h1 := hs2 i j (Nat.zero_le _) hij (by omega)
        rw [hget i hi, hget j hj] at h1
        have h2 : ¬ cmp (S.getD d'[j] default) (S.getD d'[i] default) < 0 := of_decide_eq_false h1
        have hne := (hSp.nodup_iff.mpr nd)
        rw [List.nodup_iff_pairwise_ne, List.pairwise_iff_getElem] at hne
        have h3 := hne i j (by simpa using hi) (by simpa using hj) hij
        simp only [List.getElem_map, Array.getElem_toList] at h3 ⊢
        have h4 := cmp_neg (S.getD d'[i] default) (S.getD d'[j] default)
        have h5 : cmp (S.getD d'[i] default) (S.getD d'[j] default) ≠ 0 := fun e => h3 (cmp_zero.mp e)
        show cmp (S.getD d'[i] default) (S.getD d'[j] default) < 0
        generalize cmp (S.getD d'[i] default) (S.getD d'[j] default) = A at *
        generalize cmp (S.getD d'[j] default) (S.getD d'[i] default) = C at *
        omega
      obtain ⟨q1, q2⟩ := hW.sorted (fun x : Fin S.length => c.getD x undef) d' h0 hp r5 (by rw [hd']; simp) (cs' := (d'.toList.map fun i : Fin S.length => S.getD i default).map iL) (by simp [hd']) (fun k hk => by
        rw [List.length_map, List.length_map, Array.length_toList] at hk
        rw [hget k hk]
        have : ((d'.toList.map fun i : Fin S.length => S.getD i default).map iL).getD k nv = iL (S.getD d'[k] default) := by simp [List.getD_eq_getElem?_getD, hk]
        rw [this]; exact henc _) m os
      exact ⟨_, rfl, g, .tup [], _, .refl g, hk _ _ hSp hpw (o.put _), .tup [] #[] rfl (by simp), q1, q2⟩
    · rw [hsz] at hj
      have hjc : j < c.size := by omega
      refine ⟨?_, ?_⟩
      · simp [World.cell?, r5, hjc, hj]
      · simp [World.frozen?, r5]
end Go.AW
namespace Go.Proofs.Shf
open Go.AW Go.Proofs Go.Shf
theorem closeS_nil {c : Cat} {x : Int} : c.Sieve x [] := ⟨by simp [Rising], by simp, by simp, by simp⟩
structure WorkL (c : Cat) (x : Int) (S : List (List Int)) (k j : Nat) : Prop where
  z : [] ∈ S
  nd : S.Nodup
  sv : ∀ t, t ∈ S → c.Sieve x t
  dn : ∀ i, i < k → ∀ a, a ∈ outs c x → closeS c (S.getD i default ++ [a]) ∈ S
  pt : ∀ i, i < j → i < (outs c x).length → closeS c (S.getD k default ++ [(outs c x).getD i default]) ∈ S
def LibSorts : Prop := Go.AW.Enters Tryz.prog 212 ∧ ∀ (S : List (List Int)) [Inhabited (Fin S.length)], S.length ≤ 16 → LibSort S.length fun x y => cmp (S.getD x default) (S.getD y default)
open Classical in
theorem sieves_ok (B : Nat) (hlib : LibSorts) (c : Cat) (hc : c.Is) (x : Nat) (hx : x < c.objs.toNat) : Pur Tryz.prog B 102 [.ptr c.cells, .int .i64 x] (.tup [iLL (if Few c x then allS c x else []), .bool (dec (Few c x))]) := by
  refine ⟨fun H0 => c102p (by simp) fun hfi => ?_⟩
  have hm := hc.1.m
  have hob := hc.1.o
  have htl := hc.1.tol
  have hLl : (outs c x).length ≤ 40 := by
    rw [outs, List.length_map]
    refine Nat.le_trans (List.length_filter_le _ _) ?_
    rw [List.length_range]; omega
  have hLm : ∀ a, a ∈ outs c x → (0 ≤ a ∧ a.toNat < c.frm.length) ∧ ix c.frm a = x := fun a ha => by have := mem_outs.mp ha; exact ⟨⟨this.1, this.2.1⟩, this.2.2⟩
  unfold s102p
  (try simp only [go_sem, ↓reduceIte, reduceEqDiff, reduceAdd, reduceMul, reduceLeDiff, reduceLT])
  refine newBuf_own (.nil _) fun id6 H o => ?_
  (try simp only [go_sem, ↓reduceIte, reduceEqDiff, reduceAdd, reduceMul, reduceLeDiff, reduceLT])
  refine awp_while [0, 1] (fun (g : Nat × List (List Int) × Nat) => [(6, some (.buf g.1 g.2.1.length)), (7, some (.int .i64 (g.2.2 : Int)))])
    (fun m g H => m = 16 - g.2.2 ∧ g.2.2 ≤ g.2.1.length ∧ g.2.1.length ≤ 16 ∧ WorkL c x g.2.1 g.2.2 0 ∧ Owns H0 H [(g.1, .cells 1 (g.2.1.map iL) 0)]) 16 (id6, [[]], 0)
    ⟨rfl, by simp, by simp, ⟨by simp, by simp, fun t ht => by
      rw [List.mem_singleton] at ht; subst ht
      exact closeS_nil, by simp, by simp⟩, o⟩ rfl ?_
  clear o
  rintro m ⟨id6, S, k⟩ H ⟨rfl, hkl, hS16, hW, o⟩
  replace hkl : k ≤ S.length := hkl
  replace hS16 : S.length ≤ 16 := hS16
  replace hW : WorkL c x S k 0 := hW
  replace o : Owns H0 H [(id6, .cells 1 (S.map iL) 0)] := o
  (try simp only [go_sem, ↓reduceIte, reduceEqDiff, reduceAdd, reduceMul, reduceLeDiff, reduceLT])
  refine ⟨fun h1 => At.mk ?_, fun h1 => At.mk ?_⟩
  · have h1p := of_decide h1
    have w := wsucc (k := k) (by omega)
    (try simp only [go_sem, ↓reduceIte, reduceEqDiff, reduceAdd, reduceMul, reduceLeDiff, reduceLT])
    refine (outOf_ok B c x).go fun _ => ?_
    generalize hL : outs c x = L at *
    (try simp only [go_sem, ↓reduceIte, reduceEqDiff, reduceAdd, reduceMul, reduceLeDiff, reduceLT])
    refine awp_for [0, 1, 7, 21, 22] (G := Nat × List (List Int)) (fun j g => [(6, some (.buf g.1 g.2.length)), (23, some (.int .i64 (j : Int)))])
      (fun j g H => k < g.2.length ∧ g.2.length ≤ 16 ∧ WorkL c x g.2 k j ∧ Owns H0 H [(g.1, .cells 1 (g.2.map iL) 0)]) L.length (id6, S) ⟨h1p, hS16, hW, o⟩ rfl ?_
    clear o hkl hS16 hW h1 h1p
    rintro j ⟨id6, S⟩ H hj ⟨hkl, hS16, hW, o⟩
    replace hkl : k < S.length := hkl
    replace hS16 : S.length ≤ 16 := hS16
    replace hW : WorkL c x S k j := hW
    replace o : Owns H0 H [(id6, .cells 1 (S.map iL) 0)] := o
    (try simp only [go_sem, ↓reduceIte, reduceEqDiff, reduceAdd, reduceMul, reduceLeDiff, reduceLT])
    refine ⟨fun h2 => At.mk ?_, fun h2 => At.mk ?_⟩
    · have h2p := of_decide h2
      have w2 := wsucc (k := j) (by omega)
      (try simp only [go_sem, ↓reduceIte, reduceEqDiff, reduceAdd, reduceMul, reduceLeDiff, reduceLT])
      refine ⟨h2p, hkl, rd_inner (f := iL) o.h0 hkl ?_⟩
      generalize ha : L.getD j default = a at *
      generalize ht : S.getD k default = t at *
      have htm : t ∈ S := by rw [← ht]; exact mem_getD.mpr ⟨k, hkl, rfl⟩
      have ham : a ∈ L := by rw [← ha]; exact mem_getD.mpr ⟨j, h2p, rfl⟩
      have hts := hW.sv t htm
      have htl2 := hts.len
      (try simp only [go_sem, ↓reduceIte, reduceEqDiff, reduceAdd, reduceMul, reduceLeDiff, reduceLT])
      refine (clone_own B t H0 H _ o).own fun idc A H o hA => ?_
      rw [hA] at o ⊢
      (try simp only [go_sem, ↓reduceIte, reduceEqDiff, reduceAdd, reduceMul, reduceLeDiff, reduceLT])
      refine app_own (f := iI) a o rfl rfl (by simp only [maxL]; omega) fun idc H o => ?_
      (try simp only [go_sem, ↓reduceIte, reduceEqDiff, reduceAdd, reduceMul, reduceLeDiff, reduceLT])
      refine call_fz 1 rfl o rfl fun H o => ?_
      (try simp only [go_sem, ↓reduceIte, reduceEqDiff, reduceAdd, reduceMul, reduceLeDiff, reduceLT])
      have hta : ∀ b, b ∈ t ++ [a] → (0 ≤ b ∧ b.toNat < c.frm.length) ∧ ix c.frm b = x := fun b hb => by
        rw [List.mem_append, List.mem_singleton] at hb
        rcases hb with hb | rfl
        · exact hts.arr hb
        · exact hLm _ ham
      refine (sieveOf_ok B c hc.1 (t ++ [a]) (fun b hb => (hta b hb).1)).go fun _ => ?_
      have hss := closeS_sieve hc hta
      generalize hs : closeS c (t ++ [a]) = s at *
      (try simp only [go_sem, ↓reduceIte, reduceEqDiff, reduceAdd, reduceMul, reduceLeDiff, reduceLT])
      refine newRef_own o fun id10 H o => ?_
      (try simp only [go_sem, ↓reduceIte, reduceEqDiff, reduceAdd, reduceMul, reduceLeDiff, reduceLT])
      refine st_cells o (by simp) (by (try simp only [go_sem]); (try simp)) (by first | (simp only [go_sem]; done) | ((try simp only [go_sem]); simp [AV.one, one_mL])) fun H o => ?_
      simp only [wr_cons, wr_nil, List.set_cons_zero, List.set_cons_succ] at o
      (try simp only [go_sem, ↓reduceIte, reduceEqDiff, reduceAdd, reduceMul, reduceLeDiff, reduceLT])
      refine wk_ref 10 o rfl fun H o => wkW_done ?_
      (try simp only [go_sem, ↓reduceIte, reduceEqDiff, reduceAdd, reduceMul, reduceLeDiff, reduceLT])
      refine CallH.lentPure (es := [iLL S, .fn (.func 211) [.ptr [iL s]]]) (.bool _) rfl (fun i hi => ?_) (containsFunc_ok B S s).run ?_
      · obtain rfl | rfl : i = 0 ∨ i = 1 := by simp only [List.length_cons, List.length_nil] at hi; omega
        · exact lent_arg o rfl
        · exact val_arg _
      by_cases hin : s ∈ S
      · rw [dec_t hin]
        (try simp only [go_sem, ↓reduceIte, reduceEqDiff, reduceAdd, reduceMul, reduceLeDiff, reduceLT, w2])
        refine for_next (id6, S) h2p ⟨hkl, hS16, ⟨hW.z, hW.nd, hW.sv, hW.dn, fun i hi hiL => ?_⟩, o⟩ rfl
        by_cases e : i = j
        · subst e; rw [hL, ha, ht, hs]; exact hin
        · exact hW.pt i (by omega) hiL
      · rw [dec_f hin]
        (try simp only [go_sem, ↓reduceIte, reduceEqDiff, reduceAdd, reduceMul, reduceLeDiff, reduceLT])
        refine ⟨fun h3 => At.mk ?_, fun h3 => At.mk ?_⟩
        · have h3p : S.length = 16 := by have := of_decide h3; omega
          (try simp only [go_sem, ↓reduceIte, reduceEqDiff, reduceAdd, reduceMul, reduceLeDiff, reduceLT])
          refine pure_ret ?_ o.sub
          have hnf : ¬ Few c x := ?_
          · rw [dec_f hnf, if_neg hnf]; rfl
          · refine Few.no (M := S ++ [s]) ?_ ?_ (by simp; omega)
            · rw [List.nodup_append]
              refine ⟨hW.nd, by simp, fun a ha b hb => ?_⟩
              rw [List.mem_singleton] at hb
              rintro rfl; rw [hb] at ha; exact hin ha
            · intro u hu
              rw [List.mem_append, List.mem_singleton] at hu
              rcases hu with hu | rfl
              · exact hW.sv u hu
              · exact hss
        · (try simp only [go_sem, ↓reduceIte, reduceEqDiff, reduceAdd, reduceMul, reduceLeDiff, reduceLT])
          have h3p : ¬ S.length = 16 := fun e => by rw [e] at h3; simp at h3
          have hgd : ∀ i, i < S.length → (S ++ [s]).getD i default = S.getD i default := fun i hi => by
            simp [List.getD_eq_getElem?_getD, List.getElem?_append_left hi]
          refine app_own (f := iL) s o rfl rfl (by simp only [maxL]; omega) fun id6 H o => ?_
          (try simp only [go_sem, ↓reduceIte, reduceEqDiff, reduceAdd, reduceMul, reduceLeDiff, reduceLT, w2])
          refine for_next (id6, S ++ [s]) h2p ⟨by simp; omega, by simp; omega, ⟨by simp [hW.z], ?_, fun u hu => ?_, fun i hi b hb => ?_, fun i hi hiL => ?_⟩, o⟩ rfl
          · rw [List.nodup_append]
            refine ⟨hW.nd, by simp, fun a ha b hb => ?_⟩
            rw [List.mem_singleton] at hb
            rintro rfl; rw [hb] at ha; exact hin ha
          · rw [List.mem_append, List.mem_singleton] at hu
            rcases hu with hu | rfl
            · exact hW.sv u hu
            · exact hss
          · rw [hgd i (by omega)]
            exact List.mem_append_left _ (hW.dn i hi b hb)
          · rw [hgd k hkl]
            by_cases e : i = j
            · subst e; rw [hL, ha, ht, hs]; simp
            · exact List.mem_append_left _ (hW.pt i (by omega) hiL)
    · have h2p := of_ndecide h2
      (try simp only [go_sem, ↓reduceIte, reduceEqDiff, reduceAdd, reduceMul, reduceLeDiff, reduceLT])
      refine ⟨16 - (k + 1), _, H, by omega, ⟨(id6, S, k + 1), ⟨rfl, by simp only; omega, hS16, ⟨hW.z, hW.nd, hW.sv, fun i hi b hb => ?_, by simp⟩, o⟩, rfl⟩, by rw [w]; exact .refl _ _⟩
      replace hi : i < k + 1 := hi
      by_cases e : i = k
      · subst e
        rw [hL] at hb
        obtain ⟨n, hn, rfl⟩ := mem_getD.mp hb
        have hnj : n < j := Nat.lt_of_lt_of_le hn (Nat.le_of_not_lt h2p)
        have := hW.pt n hnj (by rw [hL]; exact hn)
        rw [hL] at this; exact this
      · exact hW.dn i (by omega) b hb
  · have h1p := of_ndecide h1
    (try simp only [go_sem, ↓reduceIte, reduceEqDiff, reduceAdd, reduceMul, reduceLeDiff, reduceLT])
    have hall := all_sieves hc hW.z hW.sv fun t ht a ha => by
      obtain ⟨i, hi, rfl⟩ := mem_getD.mp ht
      exact hW.dn i (by omega) a ha
    have hpos : 0 < S.length := List.length_pos_of_mem hW.z
    letI : Inhabited (Fin S.length) := ⟨⟨0, hpos⟩⟩
    refine sort_own B S hW.nd (hlib.2 S hS16) hlib.1 o fun H S' hp hs o => ?_
    have hia : IsAll c x S' := ⟨hs, fun s => by rw [hp.mem_iff]; exact ⟨hW.sv s, hall s⟩⟩
    have hfew : Few c x := ⟨S', hia, by rw [hp.length_eq]; exact hS16⟩
    have hS' : S' = allS c x := hia.uniq (allS_is hfew).1
    (try simp only [go_sem, ↓reduceIte, reduceEqDiff, reduceAdd, reduceMul, reduceLeDiff, reduceLT])
    refine fz_own o hp.length_eq.symm fun H o => ?_
    (try simp only [go_sem, ↓reduceIte, reduceEqDiff, reduceAdd, reduceMul, reduceLeDiff, reduceLT])
    exact pure_ret (by rw [dec_t hfew, if_pos hfew, hS']) o.sub
end Go.Proofs.Shf
namespace Go.Shf
open Go.AW
noncomputable def codeL (c : Cat) (n : Int) (l : List Int) : Int := cond (dec c.Is) (cond (dec (∀ y, y ∈ l → 0 ≤ y ∧ y < n)) 0 2) 1
theorem codeL_0 {c : Cat} {n : Int} {l : List Int} : codeL c n l = 0 ↔ c.Is ∧ ∀ y, y ∈ l → 0 ≤ y ∧ y < n := by
  unfold codeL
  by_cases h1 : c.Is
  · rw [dec_t h1]
    by_cases h2 : ∀ y, y ∈ l → 0 ≤ y ∧ y < n
    · rw [dec_t h2]; exact ⟨fun _ => ⟨h1, h2⟩, fun _ => rfl⟩
    · rw [dec_f h2]; exact ⟨fun h => absurd h (by simp), fun h => absurd h.2 h2⟩
  · rw [dec_f h1]; exact ⟨fun h => absurd h (by simp), fun h => absurd h.1 h1⟩
noncomputable def impC (c : Cat) (x : Int) (s t : List Int) : Int := cond (dec (codeL c c.objs [x] = 0)) (cond (dec (c.Sieve x s ∧ c.Sieve x t)) 0 1) (codeL c c.objs [x])
noncomputable def impL (c : Cat) (x : Int) (s t : List Int) : List Int := cond (dec (impC c x s t = 0)) (impS c x s t) []
theorem impC_0 {c : Cat} {x : Int} {s t : List Int} : impC c x s t = 0 ↔ (c.Is ∧ 0 ≤ x ∧ x < c.objs) ∧ c.Sieve x s ∧ c.Sieve x t := by
  unfold impC
  by_cases h1 : codeL c c.objs [x] = 0
  · rw [dec_t h1]
    have h1 := codeL_0.mp h1
    simp only [List.mem_singleton, forall_eq] at h1
    by_cases h2 : c.Sieve x s ∧ c.Sieve x t
    · rw [dec_t h2]; exact ⟨fun _ => ⟨h1, h2⟩, fun _ => rfl⟩
    · rw [dec_f h2]; exact ⟨fun h => absurd h (by simp), fun h => absurd h.2 h2⟩
  · rw [dec_f h1]
    refine ⟨fun h => absurd h h1, fun h => absurd (codeL_0.mpr ?_) h1⟩
    simp only [List.mem_singleton, forall_eq]
    exact h.1
theorem impL_f {c : Cat} {x : Int} {s t : List Int} (h : impC c x s t ≠ 0) : impL c x s t = [] := by unfold impL; rw [dec_f h]; rfl
theorem impL_t {c : Cat} {x : Int} {s t : List Int} (h : impC c x s t = 0) : impL c x s t = impS c x s t := by unfold impL; rw [dec_t h]; rfl
noncomputable def impF (c : Cat) (s t : List Int) (y : Int) : Bool := dec (∀ b : Int, b ∈ outs c (ix c.to y) → ix (ix c.comp y) b ∈ s → ix (ix c.comp y) b ∈ t)
theorem impF_eq (c : Cat) (x : Int) (s t : List Int) : (outs c x).filter (impF c s t) = impS c x s t := by
  refine rising_ext ?_ (nats_rising _ _) fun y => ?_
  · have := outs_nats c x ▸ nats_rising _ _
    rw [rising_pw] at this ⊢
    exact this.filter _
  · rw [List.mem_filter, mem_outs, mem_impS, impF, dec_iff]
    simp only [mem_outs]
    constructor
    · rintro ⟨⟨h1, h2, h3⟩, h⟩
      exact ⟨⟨h1, h2⟩, h3, fun b hb e => h b ⟨hb.1, hb.2, e.symm⟩⟩
    · rintro ⟨⟨h1, h2⟩, h3, h⟩
      exact ⟨⟨h1, h2, h3⟩, fun b hb => h b ⟨hb.1, hb.2.1⟩ hb.2.2.symm⟩
end Go.Shf
namespace Go.Proofs.Shf
open Go.AW Go.Proofs Go.Shf
theorem dTrue {p : Decidable True} : @decide True p = true := @decide_eq_true True p trivial
theorem objectCode_ok (B : Nat) (c : Cat) (l : List Int) : Pur Tryz.prog B 95 [.ptr c.cells, iL l] (iI (codeL c c.objs l)) := by
  refine ⟨fun H0 => c95 (by simp) fun hf => ?_⟩
  unfold s95
  (try simp only [go_sem, ↓reduceIte, reduceEqDiff, reduceAdd, reduceMul, reduceLeDiff, reduceLT])
  refine (isCategory_ok B c).go fun _ => ?_
  (try simp only [go_sem, ↓reduceIte, reduceEqDiff, reduceAdd, reduceMul, reduceLeDiff, reduceLT])
  by_cases hI : c.Is
  · rw [dec_t hI]
    (try simp only [go_sem, ↓reduceIte, reduceEqDiff, reduceAdd, reduceMul, reduceLeDiff, reduceLT])
    have ho := hI.1.o
    have hm := hI.1.m
    refine (within_ok B l c.objs (by omega)).go fun _ => ?_
    (try simp only [go_sem, ↓reduceIte, reduceEqDiff, reduceAdd, reduceMul, reduceLeDiff, reduceLT])
    refine ⟨fun h1 => At.mk ?_, fun h1 => At.mk ?_⟩
    · (try simp only [go_sem, ↓reduceIte, reduceEqDiff, reduceAdd, reduceMul, reduceLeDiff, reduceLT])
      have h1p := h1; simp only [bnt, bnf, decide_eq_true_eq, decide_eq_false_iff_not, dect, decf, Int.not_lt, Int.not_le, Nat.not_lt, Decidable.not_not, ne_eq, Bool.true_eq_false, Bool.false_eq_true] at h1p
      exact pure_ret (by rw [codeL, dec_t hI, dec_f h1p]; rfl) (.refl _)
    · (try simp only [go_sem, ↓reduceIte, reduceEqDiff, reduceAdd, reduceMul, reduceLeDiff, reduceLT])
      have h1p := h1; simp only [bnt, bnf, decide_eq_true_eq, decide_eq_false_iff_not, dect, decf, Int.not_lt, Int.not_le, Nat.not_lt, Decidable.not_not, ne_eq, Bool.true_eq_false, Bool.false_eq_true] at h1p
      exact pure_ret (by rw [codeL, dec_t hI, dec_t h1p]; rfl) (.refl _)
  · rw [dec_f hI]
    (try simp only [go_sem, ↓reduceIte, reduceEqDiff, reduceAdd, reduceMul, reduceLeDiff, reduceLT])
    exact pure_ret (by rw [codeL, dec_f hI]; rfl) (.refl _)
theorem arrowCode_ok (B : Nat) (c : Cat) (l : List Int) : Pur Tryz.prog B 103 [.ptr c.cells, iL l] (iI (codeL c c.frm.length l)) := by
  refine ⟨fun H0 => c103 (by simp) fun hf => ?_⟩
  unfold s103
  (try simp only [go_sem, ↓reduceIte, reduceEqDiff, reduceAdd, reduceMul, reduceLeDiff, reduceLT])
  refine (isCategory_ok B c).go fun _ => ?_
  (try simp only [go_sem, ↓reduceIte, reduceEqDiff, reduceAdd, reduceMul, reduceLeDiff, reduceLT])
  by_cases hI : c.Is
  · rw [dec_t hI]
    (try simp only [go_sem, ↓reduceIte, reduceEqDiff, reduceAdd, reduceMul, reduceLeDiff, reduceLT])
    have hm := hI.1.m
    refine (arrows_ok B c).go fun _ => ?_
    (try simp only [go_sem, ↓reduceIte, reduceEqDiff, reduceAdd, reduceMul, reduceLeDiff, reduceLT])
    refine (within_ok B l c.frm.length (by omega)).go fun _ => ?_
    (try simp only [go_sem, ↓reduceIte, reduceEqDiff, reduceAdd, reduceMul, reduceLeDiff, reduceLT])
    refine ⟨fun h1 => At.mk ?_, fun h1 => At.mk ?_⟩
    · (try simp only [go_sem, ↓reduceIte, reduceEqDiff, reduceAdd, reduceMul, reduceLeDiff, reduceLT])
      have h1p := h1; simp only [bnt, bnf, decide_eq_true_eq, decide_eq_false_iff_not, dect, decf, Int.not_lt, Int.not_le, Nat.not_lt, Decidable.not_not, ne_eq, Bool.true_eq_false, Bool.false_eq_true] at h1p
      exact pure_ret (by rw [codeL, dec_t hI, dec_f h1p]; rfl) (.refl _)
    · (try simp only [go_sem, ↓reduceIte, reduceEqDiff, reduceAdd, reduceMul, reduceLeDiff, reduceLT])
      have h1p := h1; simp only [bnt, bnf, decide_eq_true_eq, decide_eq_false_iff_not, dect, decf, Int.not_lt, Int.not_le, Nat.not_lt, Decidable.not_not, ne_eq, Bool.true_eq_false, Bool.false_eq_true] at h1p
      exact pure_ret (by rw [codeL, dec_t hI, dec_t h1p]; rfl) (.refl _)
  · rw [dec_f hI]
    (try simp only [go_sem, ↓reduceIte, reduceEqDiff, reduceAdd, reduceMul, reduceLeDiff, reduceLT])
    exact pure_ret (by rw [codeL, dec_f hI]; rfl) (.refl _)
theorem l25Code_ok (B : Nat) (c : Cat) (x : Int) : Pur Tryz.prog B 98 [.agg c.cells, iI x] (iI (codeL c c.objs [x])) := by
  refine ⟨fun H0 => c98 (by simp) fun hf => ?_⟩
  unfold s98
  (try simp only [go_sem, ↓reduceIte, reduceEqDiff, reduceAdd, reduceMul, reduceLeDiff, reduceLT])
  refine (l02Is_ok B c).go fun _ => ?_
  (try simp only [go_sem, ↓reduceIte, reduceEqDiff, reduceAdd, reduceMul, reduceLeDiff, reduceLT])
  by_cases hI : c.Is
  · rw [dec_t hI]
    (try simp only [go_sem, ↓reduceIte, reduceEqDiff, reduceAdd, reduceMul, reduceLeDiff, reduceLT])
    refine (l02Object_ok B c x).go fun _ => ?_
    (try simp only [go_sem, ↓reduceIte, reduceEqDiff, reduceAdd, reduceMul, reduceLeDiff, reduceLT])
    refine ⟨fun h1 => At.mk ?_, fun h1 => At.mk ?_⟩
    · (try simp only [go_sem, ↓reduceIte, reduceEqDiff, reduceAdd, reduceMul, reduceLeDiff, reduceLT])
      have h1p := h1; simp only [bnt, bnf, decide_eq_true_eq, decide_eq_false_iff_not, dect, decf, Int.not_lt, Int.not_le, Nat.not_lt, Decidable.not_not, ne_eq, Bool.true_eq_false, Bool.false_eq_true] at h1p
      exact pure_ret (by rw [codeL, dec_t hI, dec_f (by simpa using h1p)]; rfl) (.refl _)
    · (try simp only [go_sem, ↓reduceIte, reduceEqDiff, reduceAdd, reduceMul, reduceLeDiff, reduceLT])
      have h1p := h1; simp only [bnt, bnf, decide_eq_true_eq, decide_eq_false_iff_not, dect, decf, Int.not_lt, Int.not_le, Nat.not_lt, Decidable.not_not, ne_eq, Bool.true_eq_false, Bool.false_eq_true] at h1p
      exact pure_ret (by rw [codeL, dec_t hI, dec_t (by simpa using h1p)]; rfl) (.refl _)
  · rw [dec_f hI]
    (try simp only [go_sem, ↓reduceIte, reduceEqDiff, reduceAdd, reduceMul, reduceLeDiff, reduceLT])
    exact pure_ret (by rw [codeL, dec_f hI]; rfl) (.refl _)
theorem isSieveG_ok (B : Nat) (c : Cat) (hc : c.Is) (x : Int) (hx : 0 ≤ x ∧ x < c.objs) (l : List Int) : Pur Tryz.prog B 30 [.agg c.cells, iI x, iL l] (.tup [.bool (dec (c.Sieve x l)), iI 0]) := by
  refine ⟨fun H0 => c30p (by simp) fun hf => ?_⟩
  unfold s30p
  (try simp only [go_sem, ↓reduceIte, reduceEqDiff, reduceAdd, reduceMul, reduceLeDiff, reduceLT])
  refine (objectCode_ok B c [x]).go fun _ => ?_
  rw [codeL_0.mpr ⟨hc, by simpa using hx⟩]
  (try simp only [go_sem, ↓reduceIte, reduceEqDiff, reduceAdd, reduceMul, reduceLeDiff, reduceLT, dTrue])
  refine (isSieve_ok B c hc.1 x l).go fun _ => ?_
  (try simp only [go_sem, ↓reduceIte, reduceEqDiff, reduceAdd, reduceMul, reduceLeDiff, reduceLT])
  exact pure_ret rfl (.refl _)
theorem pullSieve_ok (B : Nat) (c : Cat) (hc : c.Is) (a : Int) (ha : 0 ≤ a ∧ a.toNat < c.frm.length) (s : List Int) (hs : c.Sieve (ix c.frm a) s) : Pur Tryz.prog B 35 [.agg c.cells, iI a, iL s] (.tup [iL (pullS c a s), iI 0]) := by
  refine ⟨fun H0 => c35p (by simp) fun hf => ?_⟩
  unfold s35p
  (try simp only [go_sem, ↓reduceIte, reduceEqDiff, reduceAdd, reduceMul, reduceLeDiff, reduceLT])
  refine (arrowCode_ok B c [a]).go fun _ => ?_
  rw [codeL_0.mpr ⟨hc, by simp; omega⟩]
  (try simp only [go_sem, ↓reduceIte, reduceEqDiff, reduceAdd, reduceMul, reduceLeDiff, reduceLT, dTrue])
  refine ⟨ha, (isSieve_ok B c hc.1 _ s).go fun _ => ?_⟩
  rw [dec_t hs]
  (try simp only [go_sem, ↓reduceIte, reduceEqDiff, reduceAdd, reduceMul, reduceLeDiff, reduceLT])
  refine (pull_ok B c hc.1 a ha s).go fun _ => ?_
  (try simp only [go_sem, ↓reduceIte, reduceEqDiff, reduceAdd, reduceMul, reduceLeDiff, reduceLT])
  exact pure_ret rfl (.refl _)
open Classical in
theorem allSieves_ok (B : Nat) (hlib : LibSorts) (c : Cat) (hc : c.Is) (x : Int) (hx : 0 ≤ x ∧ x < c.objs) : Pur Tryz.prog B 31 [.agg c.cells, iI x] (.tup [iLL (if Few c x.toNat then allS c x.toNat else []), iI (if Few c x.toNat then 0 else 3)]) := by
  refine ⟨fun H0 => c31p (by simp) fun hf => ?_⟩
  unfold s31p
  (try simp only [go_sem, ↓reduceIte, reduceEqDiff, reduceAdd, reduceMul, reduceLeDiff, reduceLT])
  refine (objectCode_ok B c [x]).go fun _ => ?_
  rw [codeL_0.mpr ⟨hc, by simpa using hx⟩]
  (try simp only [go_sem, ↓reduceIte, reduceEqDiff, reduceAdd, reduceMul, reduceLeDiff, reduceLT, dTrue])
  obtain ⟨n, rfl⟩ : ∃ n : Nat, x = n := ⟨x.toNat, by omega⟩
  simp only [Int.toNat_natCast] at *
  refine (sieves_ok B hlib c hc n (by omega)).go fun _ => ?_
  (try simp only [go_sem, ↓reduceIte, reduceEqDiff, reduceAdd, reduceMul, reduceLeDiff, reduceLT])
  by_cases hF : Few c n
  · rw [dec_t hF, if_pos hF, if_pos hF]
    (try simp only [go_sem, ↓reduceIte, reduceEqDiff, reduceAdd, reduceMul, reduceLeDiff, reduceLT])
    have hl := (allS_is hF).2
    generalize allS c n = S at *
    refine new_list iL (.nil _) fun id H o => ?_
    (try simp only [go_sem, ↓reduceIte, reduceEqDiff, reduceAdd, reduceMul, reduceLeDiff, reduceLT])
    refine awp_for [26, 27] (G := Nat × List (List Int)) (fun k g => [(9, some (.buf g.1 g.2.length)), (28, some (.int .i64 (k : Int)))]) (fun k g H => g.2 = S.take k ∧ Owns H0 H [(g.1, .cells 1 (g.2.map iL) 0)]) S.length (id, []) ⟨by simp, o⟩ rfl ?_
    rintro k ⟨id, out⟩ H hk ⟨hout, o⟩
    replace hout : out = S.take k := hout
    (try simp only [go_sem, ↓reduceIte, reduceEqDiff, reduceAdd, reduceMul, reduceLeDiff, reduceLT])
    refine ⟨fun h1 => At.mk ?_, fun h1 => At.mk ?_⟩
    · (try simp only [go_sem, ↓reduceIte, reduceEqDiff, reduceAdd, reduceMul, reduceLeDiff, reduceLT])
      have h1 := of_decide h1
      have w1 := wsucc (k := k) (by omega)
      refine ⟨h1, ?_⟩
      (try simp only [go_sem, ↓reduceIte, reduceEqDiff, reduceAdd, reduceMul, reduceLeDiff, reduceLT])
      refine app_own (S.getD k default) o rfl rfl (by rw [hout]; simp only [maxL, List.length_take]; omega) fun id H o => ?_
      (try simp only [go_sem, ↓reduceIte, reduceEqDiff, reduceAdd, reduceMul, reduceLeDiff, reduceLT, w1])
      exact for_next (_, _) (by omega) ⟨by rw [hout, take_succ_getD S h1], o⟩ rfl
    · (try simp only [go_sem, ↓reduceIte, reduceEqDiff, reduceAdd, reduceMul, reduceLeDiff, reduceLT])
      have h1 := of_ndecide h1
      refine fz_own o rfl fun H o => ?_
      (try simp only [go_sem, ↓reduceIte, reduceEqDiff, reduceAdd, reduceMul, reduceLeDiff, reduceLT])
      exact pure_ret (by rw [hout, List.take_of_length_le (by omega)]) o.sub
  · rw [dec_f hF, if_neg hF, if_neg hF]
    (try simp only [go_sem, ↓reduceIte, reduceEqDiff, reduceAdd, reduceMul, reduceLeDiff, reduceLT])
    exact pure_ret rfl (.refl _)
theorem imply_ok (B : Nat) (c : Cat) (hc : c.Is) (x : Int) (s t : List Int) : Pur Tryz.prog B 97 [.ptr c.cells, iI x, iL s, iL t] (iL (impS c x s t)) := by
  refine ⟨fun H0 => c97p (by simp) fun hf => ?_⟩
  unfold s97p
  have hm := hc.1.m
  have hcl := hc.1.cl
  have htl := hc.1.tol
  (try simp only [go_sem, ↓reduceIte, reduceEqDiff, reduceAdd, reduceMul, reduceLeDiff, reduceLT])
  refine new_list iI (.nil _) fun id H o => ?_
  (try simp only [go_sem, ↓reduceIte, reduceEqDiff, reduceAdd, reduceMul, reduceLeDiff, reduceLT])
  refine (outOf_ok B c _).go fun hfo => ?_
  have hlo := fine_mL_le hfo
  simp only [maxL] at hlo
  generalize ho : outs c x = ou at *
  (try simp only [go_sem, ↓reduceIte, reduceEqDiff, reduceAdd, reduceMul, reduceLeDiff, reduceLT])
  refine awp_for [0, 2, 3, 18, 19] (G := Nat × List (Int)) (fun k g => [(9, some (.buf g.1 g.2.length)), (20, some (.int .i64 (k : Int)))]) (fun k g H => g.2 = ((ou.take k).filter (impF c s t)) ∧ Owns H0 H [(g.1, .cells 1 (g.2.map iI) 0)]) ou.length (id, []) ⟨by simp, o⟩ rfl ?_
  rintro k ⟨id, out⟩ H hk ⟨hout, o⟩
  replace hout : out = ((ou.take k).filter (impF c s t)) := hout
  (try simp only [go_sem, ↓reduceIte, reduceEqDiff, reduceAdd, reduceMul, reduceLeDiff, reduceLT])
  refine ⟨fun h1 => At.mk ?_, fun h1 => At.mk ?_⟩
  · have h1 := of_decide h1
    have w1 := wsucc (k := k) (by omega)
    (try simp only [go_sem, ↓reduceIte, reduceEqDiff, reduceAdd, reduceMul, reduceLeDiff, reduceLT])
    have hmem : ou.getD k default ∈ ou := mem_getD.mpr ⟨k, h1, rfl⟩
    rw [show (ou.getD k default ∈ ou) = (ou.getD k default ∈ outs c x) by rw [ho], mem_outs] at hmem
    have hr := hc.1.row' (a := ou.getD k default) hmem.2.1
    have hlen : out.length ≤ k := by rw [hout]; exact filt_len _ _ _
    refine ⟨h1, ⟨hmem.1, by omega⟩, (outOf_ok B c _).go fun hfi => ?_⟩
    have hli := fine_mL_le hfi
    simp only [maxL] at hli
    generalize hp : outs c (ix c.to (ou.getD k default)) = pu at *
    (try simp only [go_sem, ↓reduceIte, reduceEqDiff, reduceAdd, reduceMul, reduceLeDiff, reduceLT])
    refine awp_for [0, 2, 3, 9, 11, 18, 19, 20, 32, 33] (fun b _ => [(34, some (.int .i64 (b : Int)))]) (fun b' _ H' => H' = H ∧
      ∀ b : Nat, b < b' → ix (ix c.comp (ou.getD k default)) (pu.getD b default) ∈ s → ix (ix c.comp (ou.getD k default)) (pu.getD b default) ∈ t) pu.length () ⟨rfl, by simp⟩ rfl ?_
    rintro b _ H' hb ⟨rfl, hall2⟩
    (try simp only [go_sem, ↓reduceIte, reduceEqDiff, reduceAdd, reduceMul, reduceLeDiff, reduceLT])
    refine ⟨fun h2 => At.mk ?_, fun h2 => At.mk ?_⟩
    · have h2 := of_decide h2
      have w2 := wsucc (k := b) (by omega)
      (try simp only [go_sem, ↓reduceIte, reduceEqDiff, reduceAdd, reduceMul, reduceLeDiff, reduceLT])
      have hmb : pu.getD b default ∈ pu := mem_getD.mpr ⟨b, h2, rfl⟩
      rw [show (pu.getD b default ∈ pu) = (pu.getD b default ∈ outs c (ix c.to (ou.getD k default))) by rw [hp], mem_outs] at hmb
      refine ⟨h2, (catThen_ok B c (ou.getD k default) (pu.getD b default) ⟨hmem.1, by omega⟩ ⟨hmb.1, by omega⟩).go fun _ => ?_⟩
      (try simp only [go_sem, ↓reduceIte, reduceEqDiff, reduceAdd, reduceMul, reduceLeDiff, reduceLT])
      refine (has_ok ..).go fun _ => ?_
      (try simp only [go_sem, ↓reduceIte, reduceEqDiff, reduceAdd, reduceMul, reduceLeDiff, reduceLT])
      refine ⟨fun h3 => At.mk ?_, fun h3 => At.mk ?_⟩
      · (try simp only [go_sem, ↓reduceIte, reduceEqDiff, reduceAdd, reduceMul, reduceLeDiff, reduceLT, h3])
        refine (has_ok ..).go fun _ => ?_
        (try simp only [go_sem, ↓reduceIte, reduceEqDiff, reduceAdd, reduceMul, reduceLeDiff, reduceLT])
        refine ⟨fun h4 => At.mk ?_, fun h4 => At.mk ?_⟩
        · (try simp only [go_sem, ↓reduceIte, reduceEqDiff, reduceAdd, reduceMul, reduceLeDiff, reduceLT, w1])
          have h3p := h3; simp only [bnt, bnf, decide_eq_true_eq, decide_eq_false_iff_not, dect, decf, Int.not_lt, Int.not_le, Nat.not_lt, Decidable.not_not, ne_eq, Bool.true_eq_false, Bool.false_eq_true] at h3p
          have h4p := h4; simp only [bnt, bnf, decide_eq_true_eq, decide_eq_false_iff_not, dect, decf, Int.not_lt, Int.not_le, Nat.not_lt, Decidable.not_not, ne_eq, Bool.true_eq_false, Bool.false_eq_true] at h4p
          have hF : ¬ impF c s t (ou.getD k default) = true := by
            rw [impF, dec_iff, hp]
            exact fun h => h4p (h _ (mem_getD.mpr ⟨b, h2, rfl⟩) h3p)
          exact for_next (_, _) (by omega) ⟨by rw [hout, filt_f h1 (Bool.eq_false_iff.mpr hF)], o⟩ rfl
        · (try simp only [go_sem, ↓reduceIte, reduceEqDiff, reduceAdd, reduceMul, reduceLeDiff, reduceLT, w2])
          have h4p := h4; simp only [bnt, bnf, decide_eq_true_eq, decide_eq_false_iff_not, dect, decf, Int.not_lt, Int.not_le, Nat.not_lt, Decidable.not_not, ne_eq, Bool.true_eq_false, Bool.false_eq_true] at h4p
          exact for_next () (by omega) ⟨rfl, lt_succ_all hall2 fun _ => h4p⟩ rfl
      · (try simp only [go_sem, ↓reduceIte, reduceEqDiff, reduceAdd, reduceMul, reduceLeDiff, reduceLT, h3, w2])
        have h3p := h3; simp only [bnt, bnf, decide_eq_true_eq, decide_eq_false_iff_not, dect, decf, Int.not_lt, Int.not_le, Nat.not_lt, Decidable.not_not, ne_eq, Bool.true_eq_false, Bool.false_eq_true] at h3p
        exact for_next () (by omega) ⟨rfl, lt_succ_all hall2 fun h => absurd h h3p⟩ rfl
    · (try simp only [go_sem, ↓reduceIte, reduceEqDiff, reduceAdd, reduceMul, reduceLeDiff, reduceLT])
      have h2 := of_ndecide h2
      refine app_own (ou.getD k default) o rfl rfl (by simp only [maxL]; omega) fun id H o => ?_
      (try simp only [go_sem, ↓reduceIte, reduceEqDiff, reduceAdd, reduceMul, reduceLeDiff, reduceLT, w1])
      have hF : impF c s t (ou.getD k default) = true := by
        rw [impF, dec_iff, hp]
        intro y hy
        obtain ⟨i, hi, rfl⟩ := mem_getD.mp hy
        exact hall2 i (by omega)
      exact for_next (_, _) (by omega) ⟨by rw [hout, filt_t h1 hF], o⟩ rfl
  · (try simp only [go_sem, ↓reduceIte, reduceEqDiff, reduceAdd, reduceMul, reduceLeDiff, reduceLT])
    have h1 := of_ndecide h1
    refine fz_own o rfl fun H o => ?_
    (try simp only [go_sem, ↓reduceIte, reduceEqDiff, reduceAdd, reduceMul, reduceLeDiff, reduceLT])
    exact pure_ret (by rw [hout, show k = ou.length by omega, List.take_length, ← ho, impF_eq]) o.sub
theorem implySieves_ok (B : Nat) (c : Cat) (x : Int) (s t : List Int) : Pur Tryz.prog B 28 [.agg c.cells, iI x, iL s, iL t] (.tup [iL (impL c x s t), iI (impC c x s t)]) := by
  refine ⟨fun H0 => c28p (by simp) fun hf => ?_⟩
  unfold s28p
  (try simp only [go_sem, ↓reduceIte, reduceEqDiff, reduceAdd, reduceMul, reduceLeDiff, reduceLT])
  refine (objectCode_ok B c [x]).go fun _ => ?_
  by_cases h0 : codeL c c.objs [x] = 0
  · have hI := (codeL_0.mp h0).1
    rw [h0]
    (try simp only [go_sem, ↓reduceIte, reduceEqDiff, reduceAdd, reduceMul, reduceLeDiff, reduceLT, dTrue])
    refine (isSieve_ok B c hI.1 x s).go fun _ => ?_
    (try simp only [go_sem, ↓reduceIte, reduceEqDiff, reduceAdd, reduceMul, reduceLeDiff, reduceLT])
    refine ⟨fun h1 => At.mk ?_, fun h1 => At.mk ?_⟩
    · (try simp only [go_sem, ↓reduceIte, reduceEqDiff, reduceAdd, reduceMul, reduceLeDiff, reduceLT, h1])
      refine (isSieve_ok B c hI.1 x t).go fun _ => ?_
      (try simp only [go_sem, ↓reduceIte, reduceEqDiff, reduceAdd, reduceMul, reduceLeDiff, reduceLT])
      refine ⟨fun h2 => At.mk ?_, fun h2 => At.mk ?_⟩
      rotate_left
      · (try simp only [go_sem, ↓reduceIte, reduceEqDiff, reduceAdd, reduceMul, reduceLeDiff, reduceLT])
        have h1p := h1; simp only [bnt, bnf, decide_eq_true_eq, decide_eq_false_iff_not, dect, decf, Int.not_lt, Int.not_le, Nat.not_lt, Decidable.not_not, ne_eq, Bool.true_eq_false, Bool.false_eq_true] at h1p
        have h2p := h2; simp only [bnt, bnf, decide_eq_true_eq, decide_eq_false_iff_not, dect, decf, Int.not_lt, Int.not_le, Nat.not_lt, Decidable.not_not, ne_eq, Bool.true_eq_false, Bool.false_eq_true] at h2p
        have e : impC c x s t = 0 := by rw [impC, dec_t h0, dec_t ⟨h1p, h2p⟩]; rfl
        refine (imply_ok B c hI x s t).go fun _ => ?_
        (try simp only [go_sem, ↓reduceIte, reduceEqDiff, reduceAdd, reduceMul, reduceLeDiff, reduceLT])
        exact pure_ret (by rw [impL_t e, e]) (.refl _)
      · (try simp only [go_sem, ↓reduceIte, reduceEqDiff, reduceAdd, reduceMul, reduceLeDiff, reduceLT])
        have h2p := h2; simp only [bnt, bnf, decide_eq_true_eq, decide_eq_false_iff_not, dect, decf, Int.not_lt, Int.not_le, Nat.not_lt, Decidable.not_not, ne_eq, Bool.true_eq_false, Bool.false_eq_true] at h2p
        have e : impC c x s t = 1 := by rw [impC, dec_t h0, dec_f (fun h => h2p h.2)]; rfl
        exact pure_ret (by rw [impL_f (by rw [e]; decide), e]; rfl) (.refl _)
    · (try simp only [go_sem, ↓reduceIte, reduceEqDiff, reduceAdd, reduceMul, reduceLeDiff, reduceLT, h1])
      have h1p := h1; simp only [bnt, bnf, decide_eq_true_eq, decide_eq_false_iff_not, dect, decf, Int.not_lt, Int.not_le, Nat.not_lt, Decidable.not_not, ne_eq, Bool.true_eq_false, Bool.false_eq_true] at h1p
      have e : impC c x s t = 1 := by rw [impC, dec_t h0, dec_f (fun h => h1p h.1)]; rfl
      exact pure_ret (by rw [impL_f (by rw [e]; decide), e]; rfl) (.refl _)
  · have e : impC c x s t = codeL c c.objs [x] := by rw [impC, dec_f h0]; rfl
    rw [impL_f (by rw [e]; exact h0), e]
    generalize codeL c c.objs [x] = v at *
    (try simp only [go_sem, ↓reduceIte, reduceEqDiff, reduceAdd, reduceMul, reduceLeDiff, reduceLT])
    rw [decide_eq_false h0]
    (try simp only [go_sem, ↓reduceIte, reduceEqDiff, reduceAdd, reduceMul, reduceLeDiff, reduceLT])
    exact pure_ret rfl (.refl _)
theorem all_step {A : Prop} {P : Nat → Prop} {b : Nat} (hv : A ∧ ∀ i, i < b → P i) {p : Prop} (hp : P b ↔ p) : dec p = dec (A ∧ ∀ i, i < b + 1 → P i) :=
  dec_congr ⟨fun h => ⟨hv.1, fun i hi => by
    by_cases e : i = b
    · subst e; exact hp.mpr h
    · exact hv.2 i (by omega)⟩, fun h => hp.mp (h.2 b (by omega))⟩
theorem implyS_ok (B : Nat) (c : Cat) (x : Int) (s t : List Int) : Pur Tryz.prog B 29 [.agg c.cells, iI x, iL s, iL t] (.tup [iL (impL c x s t), iI (impC c x s t)]) := by
  refine ⟨fun H0 => c29p (by simp) fun hf => ?_⟩
  unfold s29p
  (try simp only [go_sem, ↓reduceIte, reduceEqDiff, reduceAdd, reduceMul, reduceLeDiff, reduceLT])
  refine (l25Code_ok B c x).go fun _ => ?_
  by_cases h0 : codeL c c.objs [x] = 0
  · have hI := (codeL_0.mp h0).1
    rw [h0]
    (try simp only [go_sem, ↓reduceIte, reduceEqDiff, reduceAdd, reduceMul, reduceLeDiff, reduceLT, dTrue])
    refine (l25Sieve_ok B c hI.1 x s).go fun _ => ?_
    (try simp only [go_sem, ↓reduceIte, reduceEqDiff, reduceAdd, reduceMul, reduceLeDiff, reduceLT])
    refine ⟨fun h1 => At.mk ?_, fun h1 => At.mk ?_⟩
    · (try simp only [go_sem, ↓reduceIte, reduceEqDiff, reduceAdd, reduceMul, reduceLeDiff, reduceLT, h1])
      refine (l25Sieve_ok B c hI.1 x t).go fun _ => ?_
      (try simp only [go_sem, ↓reduceIte, reduceEqDiff, reduceAdd, reduceMul, reduceLeDiff, reduceLT])
      refine ⟨fun h2 => At.mk ?_, fun h2 => At.mk ?_⟩
      rotate_left
      · (try simp only [go_sem, ↓reduceIte, reduceEqDiff, reduceAdd, reduceMul, reduceLeDiff, reduceLT])
        have h1p := h1; simp only [bnt, bnf, decide_eq_true_eq, decide_eq_false_iff_not, dect, decf, Int.not_lt, Int.not_le, Nat.not_lt, Decidable.not_not, ne_eq, Bool.true_eq_false, Bool.false_eq_true] at h1p
        have h2p := h2; simp only [bnt, bnf, decide_eq_true_eq, decide_eq_false_iff_not, dect, decf, Int.not_lt, Int.not_le, Nat.not_lt, Decidable.not_not, ne_eq, Bool.true_eq_false, Bool.false_eq_true] at h2p
        have e : impC c x s t = 0 := by rw [impC, dec_t h0, dec_t ⟨h1p, h2p⟩]; rfl
        rw [impL_t e, e]
        have hm := hI.1.m
        have hcl := hI.1.cl
        have htl := hI.1.tol
        refine new_list iI (.nil _) fun id H o => ?_
        (try simp only [go_sem, ↓reduceIte, reduceEqDiff, reduceAdd, reduceMul, reduceLeDiff, reduceLT])
        refine awp_for [1, 2, 3, 4] (G := Nat × List (Int)) (fun k g => [(11, some (.buf g.1 g.2.length)), (12, some (.int .i64 (k : Int)))]) (fun k g H => g.2 = (nats (impP c x s t) k) ∧ Owns H0 H [(g.1, .cells 1 (g.2.map iI) 0)]) c.frm.length (id, []) ⟨by simp, o⟩ rfl ?_
        rintro k ⟨id, out⟩ H hk ⟨hout, o⟩
        replace hout : out = (nats (impP c x s t) k) := hout
        (try simp only [go_sem, ↓reduceIte, reduceEqDiff, reduceAdd, reduceMul, reduceLeDiff, reduceLT])
        refine ⟨fun g1 => At.mk ?_, fun g1 => At.mk ?_⟩
        · have g1 := of_decide g1
          have w1 := wsucc (k := k) (by omega)
          (try simp only [go_sem, ↓reduceIte, reduceEqDiff, reduceAdd, reduceMul, reduceLeDiff, reduceLT])
          have hr := hI.1.row' (a := k) (by simpa using g1)
          have hlen : out.length ≤ k := by rw [hout]; exact nats_len _ _
          refine ⟨g1, ?_⟩
          (try simp only [go_sem, ↓reduceIte, reduceEqDiff, reduceAdd, reduceMul, reduceLeDiff, reduceLT])
          refine awp_for [1, 2, 3, 4, 11, 12] (G := Bool) (fun b v => [(13, some (.bool v)), (14, some (.int .i64 (b : Int)))]) (fun b' v H' => H' = H ∧
            v = dec (c.frm.getD k default = x ∧ ∀ b : Nat, b < b' → c.to.getD k default = c.frm.getD b default → (c.comp.getD k default).getD b default ∈ s → (c.comp.getD k default).getD b default ∈ t)) c.frm.length (decide (c.frm.getD k default = x)) ⟨rfl, ?_⟩ rfl ?_
          · exact (decide_dec ..).trans (dec_congr ⟨fun h => ⟨h, by simp⟩, fun h => h.1⟩)
          rintro b v H' hb ⟨rfl, hv⟩
          (try simp only [go_sem, ↓reduceIte, reduceEqDiff, reduceAdd, reduceMul, reduceLeDiff, reduceLT])
          refine ⟨fun g2 => At.mk ?_, fun g2 => At.mk ?_⟩
          · (try simp only [go_sem, ↓reduceIte, reduceEqDiff, reduceAdd, reduceMul, reduceLeDiff, reduceLT, g2])
            subst g2
            have hv := dec_iff.mp hv.symm
            refine ⟨fun g3 => At.mk ?_, fun g3 => At.mk ?_⟩
            · have g3 := of_decide g3
              have w2 := wsucc (k := b) (by omega)
              (try simp only [go_sem, ↓reduceIte, reduceEqDiff, reduceAdd, reduceMul, reduceLeDiff, reduceLT])
              refine ⟨by omega, g3, ?_⟩
              refine ⟨fun g4 => At.mk ?_, fun g4 => At.mk ?_⟩
              · (try simp only [go_sem, ↓reduceIte, reduceEqDiff, reduceAdd, reduceMul, reduceLeDiff, reduceLT, g4])
                have g4p := g4; simp only [bnt, bnf, decide_eq_true_eq, decide_eq_false_iff_not, dect, decf, Int.not_lt, Int.not_le, Nat.not_lt, Decidable.not_not, ne_eq, Bool.true_eq_false, Bool.false_eq_true] at g4p
                refine ⟨_, (l02Then_ok B c k b ⟨by omega, by simp; omega⟩ ⟨by omega, by simp; omega⟩).run, ?_⟩
                (try simp only [go_sem, ↓reduceIte, reduceEqDiff, reduceAdd, reduceMul, reduceLeDiff, reduceLT])
                refine ⟨_, (l01Has_ok ..).run, ?_⟩
                (try simp only [go_sem, ↓reduceIte, reduceEqDiff, reduceAdd, reduceMul, reduceLeDiff, reduceLT])
                refine ⟨fun g5 => At.mk ?_, fun g5 => At.mk ?_⟩
                · (try simp only [go_sem, ↓reduceIte, reduceEqDiff, reduceAdd, reduceMul, reduceLeDiff, reduceLT, g5])
                  refine ⟨_, (l02Then_ok B c k b ⟨by omega, by simp; omega⟩ ⟨by omega, by simp; omega⟩).run, ?_⟩
                  (try simp only [go_sem, ↓reduceIte, reduceEqDiff, reduceAdd, reduceMul, reduceLeDiff, reduceLT])
                  refine ⟨_, (l01Has_ok ..).run, ?_⟩
                  (try simp only [go_sem, ↓reduceIte, reduceEqDiff, reduceAdd, reduceMul, reduceLeDiff, reduceLT, w2])
                  have g5p := g5; simp only [bnt, bnf, decide_eq_true_eq, decide_eq_false_iff_not, dect, decf, Int.not_lt, Int.not_le, Nat.not_lt, Decidable.not_not, ne_eq, Bool.true_eq_false, Bool.false_eq_true] at g5p
                  have e : c.to.getD k default = c.frm.getD b default := g4p
                  exact for_next (dec ((c.comp.getD k default).getD b default ∈ t)) g3 ⟨rfl, all_step hv ⟨fun h => h e g5p, fun h _ _ => h⟩⟩ rfl
                · (try simp only [go_sem, ↓reduceIte, reduceEqDiff, reduceAdd, reduceMul, reduceLeDiff, reduceLT, g5, w2])
                  have g5p := g5; simp only [bnt, bnf, decide_eq_true_eq, decide_eq_false_iff_not, dect, decf, Int.not_lt, Int.not_le, Nat.not_lt, Decidable.not_not, ne_eq, Bool.true_eq_false, Bool.false_eq_true] at g5p
                  exact for_next true g3 ⟨rfl, (dec_t trivial).symm.trans (all_step hv ⟨fun _ => trivial, fun _ _ h => absurd h g5p⟩)⟩ rfl
              · (try simp only [go_sem, ↓reduceIte, reduceEqDiff, reduceAdd, reduceMul, reduceLeDiff, reduceLT, g4, w2])
                have g4p := g4; simp only [bnt, bnf, decide_eq_true_eq, decide_eq_false_iff_not, dect, decf, Int.not_lt, Int.not_le, Nat.not_lt, Decidable.not_not, ne_eq, Bool.true_eq_false, Bool.false_eq_true] at g4p
                exact for_next true g3 ⟨rfl, (dec_t trivial).symm.trans (all_step hv ⟨fun _ => trivial, fun _ h => absurd h g4p⟩)⟩ rfl
            · have g3 := of_ndecide g3
              have e : impP c x s t k = true := by
                obtain rfl : b = c.frm.length := by omega
                exact dec_t hv
              (try simp only [go_sem, ↓reduceIte, reduceEqDiff, reduceAdd, reduceMul, reduceLeDiff, reduceLT])
              refine app_own (k : Int) o rfl rfl (by simp only [maxL]; omega) fun id H o => ?_
              (try simp only [go_sem, ↓reduceIte, reduceEqDiff, reduceAdd, reduceMul, reduceLeDiff, reduceLT, w1])
              exact for_next (_, _) (by omega) ⟨by rw [hout, nats_t e], o⟩ rfl
          · (try simp only [go_sem, ↓reduceIte, reduceEqDiff, reduceAdd, reduceMul, reduceLeDiff, reduceLT, g2, w1])
            subst g2
            have hv := dec_niff.mp hv.symm
            have e : impP c x s t k = false := dec_f fun h => hv ⟨h.1, fun i hi => h.2 i (by omega)⟩
            exact for_next (_, _) (by omega) ⟨by rw [hout, nats_f e], o⟩ rfl
        · (try simp only [go_sem, ↓reduceIte, reduceEqDiff, reduceAdd, reduceMul, reduceLeDiff, reduceLT])
          have g1 := of_ndecide g1
          refine fz_own o rfl fun H o => ?_
          (try simp only [go_sem, ↓reduceIte, reduceEqDiff, reduceAdd, reduceMul, reduceLeDiff, reduceLT])
          exact pure_ret (by rw [hout, show k = c.frm.length by omega]; rfl) o.sub
      · (try simp only [go_sem, ↓reduceIte, reduceEqDiff, reduceAdd, reduceMul, reduceLeDiff, reduceLT])
        have h2p := h2; simp only [bnt, bnf, decide_eq_true_eq, decide_eq_false_iff_not, dect, decf, Int.not_lt, Int.not_le, Nat.not_lt, Decidable.not_not, ne_eq, Bool.true_eq_false, Bool.false_eq_true] at h2p
        have e : impC c x s t = 1 := by rw [impC, dec_t h0, dec_f (fun h => h2p h.2)]; rfl
        exact pure_ret (by rw [impL_f (by rw [e]; decide), e]; rfl) (.refl _)
    · (try simp only [go_sem, ↓reduceIte, reduceEqDiff, reduceAdd, reduceMul, reduceLeDiff, reduceLT, h1])
      have h1p := h1; simp only [bnt, bnf, decide_eq_true_eq, decide_eq_false_iff_not, dect, decf, Int.not_lt, Int.not_le, Nat.not_lt, Decidable.not_not, ne_eq, Bool.true_eq_false, Bool.false_eq_true] at h1p
      have e : impC c x s t = 1 := by rw [impC, dec_t h0, dec_f (fun h => h1p h.1)]; rfl
      exact pure_ret (by rw [impL_f (by rw [e]; decide), e]; rfl) (.refl _)
  · have e : impC c x s t = codeL c c.objs [x] := by rw [impC, dec_f h0]; rfl
    rw [impL_f (by rw [e]; exact h0), e]
    generalize codeL c c.objs [x] = v at *
    (try simp only [go_sem, ↓reduceIte, reduceEqDiff, reduceAdd, reduceMul, reduceLeDiff, reduceLT])
    rw [decide_eq_false h0]
    (try simp only [go_sem, ↓reduceIte, reduceEqDiff, reduceAdd, reduceMul, reduceLeDiff, reduceLT])
    exact pure_ret rfl (.refl _)
end Go.Proofs.Shf
namespace Go.Proofs.Shf
open Go.AW Go.Proofs Go.RowKit
theorem rc_disable (w : World) : (callFunc 394 #[]).run Tryz.prog w = .ok (.value (.tuple #[])) w := run_call_mark0 Tryz.func394 (by kernel_rfl) (by kernel_rfl) (by kernel_rfl) .disable (by kernel_rfl) w
theorem rc_enable (w : World) : (callFunc 396 #[]).run Tryz.prog w = .ok (.value (.tuple #[])) w := run_call_mark0 Tryz.func396 (by kernel_rfl) (by kernel_rfl) (by kernel_rfl) .enable (by kernel_rfl) w
theorem rc_acquire (a : Addr) (w : World) : (callFunc 397 #[.pointer (some a)]).run Tryz.prog w = .ok (.value (.tuple #[])) w := run_call_marked Tryz.func397 (by kernel_rfl) (by kernel_rfl) (by kernel_rfl) .acquire (by kernel_rfl) a w
theorem rc_merge (a : Addr) (w : World) : (callFunc 399 #[.pointer (some a)]).run Tryz.prog w = .ok (.value (.tuple #[])) w := run_call_marked Tryz.func399 (by kernel_rfl) (by kernel_rfl) (by kernel_rfl) .releaseMerge (by kernel_rfl) a w
theorem once_store (a : Addr) (x : Value) (u : FrameMode) (w : World) (hc : w.cell? a = some x) (hz : w.frozen? a = false) :
    CallsD Tryz.prog 362 #[.pointer (some a), .bool true] u w fun e u' w' => u' = u ∧ (e = .returned (.tuple #[]) ∧ w' = w.drew.setCell a (.int .u32 1)) := by
  have hc' : w.drew.cell? a = some x := by go_simp
  have hz' : w.drew.frozen? a = false := by go_simp
  have hst := run_call_store (P := Tryz.prog) Tryz.func384 (by kernel_rfl) (by kernel_rfl) (by kernel_rfl) (by kernel_rfl) (k := .u32) (y := 1) hc' hz'
  go_enter_d Tryz.func362, Tryz.ntmps362
  go_wp2
  go_region_calls
  all_goals (go_end0; exact ⟨rfl, rfl⟩)
set_option maxRecDepth 100000 in
theorem once_unlock (a : Addr) (u : FrameMode) (w : World) (hc : w.cell? a = some (.int .i32 1)) (hz : w.frozen? a = false) :
    CallsD Tryz.prog 361 #[.pointer (some a)] u w fun e u' w' => u' = u ∧ (e = .returned (.tuple #[]) ∧ w' = w.setCell a (.int .i32 0)) := by
  have hd := rc_disable
  have he := rc_enable
  have hr := rc_merge
  have hadd := run_call_add (P := Tryz.prog) Tryz.func400 (by kernel_rfl) (by kernel_rfl) (by kernel_rfl) .i32 (by kernel_rfl) (y := -1) (s := 0) hc hz (by simp [go_sem]; rfl)
  have hcv := run_convert_to_unsafe (P := Tryz.prog) (src := 435) (dst := 439) Tryz.underlying435 Tryz.underlying439 (by kernel_rfl) hc
  go_enter_d Tryz.func361, Tryz.ntmps361
  go_wp2
  go_end0
  go_wp2
  go_end0
  exact ⟨rfl, rfl⟩
set_option maxRecDepth 100000 in
theorem once_lock (a : Addr) (w : World) (hc : w.cell? a = some (.int .i32 0)) (hz : w.frozen? a = false) :
    Calls Tryz.prog 360 #[.pointer (some a)] w fun e w' => e = .returned (.tuple #[]) ∧ w' = w.setCell a (.int .i32 1) := by
  have hd := rc_disable
  have he := rc_enable
  have ha := rc_acquire
  have hcas := run_call_cas_hit (P := Tryz.prog) Tryz.func395 (by kernel_rfl) (by kernel_rfl) (by kernel_rfl) .i32 (by kernel_rfl) (y := 1) hc hz
  have hc' : (w.setCell a (.int .i32 1)).cell? a = some (.int .i32 1) := World.cell?_setCell_same w a _ hc
  have hcv := run_convert_to_unsafe (P := Tryz.prog) (src := 435) (dst := 439) Tryz.underlying435 Tryz.underlying439 (by kernel_rfl) hc'
  go_enter Tryz.func360, Tryz.ntmps360
  go_wp2
  first | go_end0 | (simp only [Exit.inBlock, Exit.then]; refine bodyPost_ret (results_none rfl _ _ _) rfl ?_) | refine bodyPost_ret (results_none rfl _ _ _) rfl ?_
  go_wp2
  go_end0
  exact ⟨rfl, rfl⟩
end Go.Proofs.Shf
