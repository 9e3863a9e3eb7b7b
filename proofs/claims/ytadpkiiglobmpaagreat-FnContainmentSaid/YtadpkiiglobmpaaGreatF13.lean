/- A part of a proof. -/
import Derived.Test.YtadpkiiglobmpaaGreatF12
import Derived.Shelf.SlSortCmp.NoneTotal
import Derived.Test.YtadpkiiglobmpaaGreatProg
import Derived.Shelf.SlLaysF0
import Derived.Shelf.SlSortCmp.WholeK
set_option linter.unusedVariables false
set_option linter.unusedSimpArgs false
set_option linter.unusedSectionVars false
open Nat (reduceEqDiff reduceAdd reduceMul reduceLeDiff reduceLT)
namespace Go.AW
open Go.Proofs Go.Proofs.Shf Go.Shf Go.RowKit
theorem cmp_laysR {g : Gh} {B : Nat} {H : Heap} {w : World} (h : WRel g B H w) (S : Nat → List Int) (b size : Nat) (hfz : ∀ o, g.fz b o = none) (hfm : g.fm b = none) {α : Type} [Inhabited α] (nm : α → Nat) (enc : α → Value) (hv : ∀ x, VRel g (iL (S (nm x))) (enc x)) :
  ∀ (m : Nat) (os : Array Obj) (dk : Array α), dk.size = size → ∀ x y : α,
  Calls Tryz.prog 214 (#[enc x, enc y] ++ #[]) (Sort.grow (Sort.putRow enc (Sort.ahead w m) b 0 dk) os) fun e w' => e = .returned (.int .i64 (cmp (S (nm x)) (S (nm y)))) ∧ ∃ q os', w' = Sort.grow ((Sort.grow (Sort.putRow enc (Sort.ahead w m) b 0 dk) os).drewN q) os' := by
 intro m os dk hs x y
 have hW := h.other b hfz hfm fun k hk hl => row_other enc w b 0 m dk os k hk hl
 generalize (Sort.grow (Sort.putRow enc (Sort.ahead w m) b 0 dk) os) = W at hW ⊢
 have hc := (compare_ok W.heap.size (S (nm x)) (S (nm y))).run []
 refine (hc.2 g W _ hW ⟨rfl, fun i hi => ?_⟩).mono ?_
 ·obtain rfl | rfl : i = 0 ∨ i = 1 := by simp only [List.length_cons, List.length_nil] at hi; omega
  ·exact hv x
  ·exact hv y
 rintro e w' ⟨v, rfl, g', r, H', _, ⟨rfl, rfl⟩, hv2, _, hb⟩
 cases hv2
 exact ⟨rfl, below_grow hb⟩
def LibSortR (n : Nat) [Inhabited (Fin n)] (cf : Fin n → Fin n → Int) : Prop :=
 ∀ (b cap : Nat) (w : World) (enc : Fin n → Value), (∀ x, (enc x).oneCell' = true) →
  (∀ (m : Nat) (os : Array Obj) (dk : Array (Fin n)), dk.size = (Array.ofFn fun i : Fin n => i).size → ∀ x y : Fin n,
   Calls Tryz.prog 214 (#[enc x, enc y] ++ #[]) (Sort.grow (Sort.putRow enc (Sort.ahead w m) b 0 dk) os) fun e w' => e = .returned (.int .i64 (cf x y)) ∧ ∃ q os', w' = Sort.grow ((Sort.grow (Sort.putRow enc (Sort.ahead w m) b 0 dk) os).drewN q) os') →
  Sort.Holds enc w b 0 (Array.ofFn fun i : Fin n => i) → b < w.heap.size →
  Calls Tryz.prog 295 #[.slice (some ⟨b, 0, none⟩) (Array.ofFn fun i : Fin n => i).size cap, .func (.func 214) #[] #[]] w fun e w' =>
   e = .returned (.tuple #[]) ∧ ∃ d' m os, Sort.PermIn 0 (Array.ofFn fun i : Fin n => i).size (Array.ofFn fun i : Fin n => i) d' ∧ Sort.SortedIn (fun x y => decide (cf x y < 0)) 0 (Array.ofFn fun i : Fin n => i).size d' ∧ w' = Sort.grow (Sort.putRow enc (Sort.ahead w m) b 0 d') os
theorem sort_ownR (B : Nat) (S : List (List Int)) [Inhabited (Fin S.length)] (hlib : LibSortR S.length fun x y => cmp (S.getD x default) (S.getD y default)) (hent : Enters Tryz.prog 295) {H0 H : Heap} {l : List (Nat × MObj)} {id : Nat} {K : Kont}
  (o : Owns H0 H ((id, .cells 1 (S.map iL) 0) :: l)) (hk : ∀ (H' : Heap) (S' : List (List Int)), S'.Perm S → (S'.Pairwise fun s t => cmp s t ≤ 0) → Owns H0 H' ((id, .cells 1 (S'.map iL) 0) :: l) → K (.tup []) H') :
  CallH Tryz.prog B 295 [.buf id S.length, .fn (.func 214) []] H K := by
 refine ⟨hent, fun g w vs hW hv => ?_⟩
 have hS0 : 0 < S.length := (default : Fin S.length).pos
 have h0 := o.h0
 simp only at h0
 obtain ⟨p, hp, hr⟩ := hW.ob id _ h0
 cases p with
 | nil => simp only [ObjRel] at hr; have := hr.1; simp at this; rw [this] at hS0; simp at hS0
 | mp b => simp [ObjRel] at hr
 | blk b cap =>
  simp only [ObjRel] at hr
  obtain ⟨r1, r2, r3, r4, c, el, r5, r6, r7, r8⟩ := hr
  rw [List.length_map] at r7 r8
  obtain ⟨hv0, hv1⟩ := hv
  obtain ⟨v0, v1, rfl⟩ : ∃ v0 v1, vs = #[v0, v1] := by
   rcases vs with ⟨l⟩
   simp only [List.length_cons, List.length_nil] at hv0
   match l, hv0 with
   | [a, b], _ => exact ⟨a, b, rfl⟩
  have e0 : VRel g (.buf id S.length) v0 := hv1 0 (by simp)
  have e1 : VRel g (.fn (.func 214) []) v1 := hv1 1 (by simp)
  have hv0' : ∃ cap', v0 = .slice (some ⟨b, 0, none⟩) S.length cap' := by
   generalize hn : S.length = n at *
   cases e0 with
   | bufnil _ hq => rw [hq] at hp; cases hp
   | buf _ _ b' cap' hq => rw [hq] at hp; cases hp; exact ⟨_, rfl⟩
  obtain ⟨cap', rfl⟩ := hv0'
  have hv1' : v1 = .func (.func 214) #[] #[] := by
   cases e1 with
   | fn _ _ vs hs _ =>
    have : vs = #[] := Array.eq_empty_of_size_eq_zero (by simpa using hs)
    rw [this]
  subst hv1'
  have hsz : (Array.ofFn fun i : Fin S.length => i).size = S.length := by simp
  have hbl : b < w.heap.size := (Array.getElem?_eq_some_iff.1 r5).1
  have hfm : g.fm b = none := by
   cases e : g.fm b with
   | none => rfl
   | some es => obtain ⟨clk, h⟩ := hW.fm _ _ e; rw [r5] at h; cases h
  have henc : ∀ x : Fin S.length, VRel g (iL (S.getD x default)) (c.getD x undef) := fun x => by
   have := r8 x x.2; rw [getD_map S x.2] at this; exact this
  have hl := hlib b cap' w (fun x => c.getD x undef) (fun x => by
   have := henc x
   exact sl_one this) (cmp_laysR hW (fun i => S.getD i default) b _ (fun o => r4 o (Nat.zero_le _)) hfm (fun x : Fin S.length => x.val) _ henc) (fun j hj => ?_) hbl
  ·rw [hsz] at hl
   refine hl.mono ?_
   rintro e w' ⟨rfl, d', m, os, hp2, hs2, rfl⟩
   have hd' : d'.size = S.length := by rw [hp2.1, hsz]
   have hperm : d'.toList.Perm (Array.ofFn fun i : Fin S.length => i).toList := by
    have := hp2.2.2
    rw [Array.extract_eq_self_of_le (by omega), Array.extract_eq_self_of_le (by omega)] at this
    exact this
   have hmap : (Array.ofFn fun i : Fin S.length => i).toList.map (fun i : Fin S.length => S.getD i default) = S := by
    apply List.ext_getElem (by simp)
    intro i h1 h2
    simp [List.getD_eq_getElem?_getD, h2]
   have hSp : (d'.toList.map fun i : Fin S.length => S.getD i default).Perm S := by
    have := hperm.map fun i : Fin S.length => S.getD i default
    rwa [hmap] at this
   have hget : ∀ k (hk : k < d'.size), d'[k]! = d'[k] := fun k hk => getElem!_pos d' k hk
   have hpw : (d'.toList.map fun i : Fin S.length => S.getD i default).Pairwise fun s t => cmp s t ≤ 0 := by
    rw [List.pairwise_iff_getElem]
    intro i j hi hj hij
    rw [List.length_map, Array.length_toList] at hi hj
    have h1 := hs2 i j (Nat.zero_le _) hij (by omega)
    rw [hget i hi, hget j hj] at h1
    have h2 : ¬ cmp (S.getD d'[j] default) (S.getD d'[i] default) < 0 := of_decide_eq_false h1
    simp only [List.getElem_map, Array.getElem_toList]
    have h4 := cmp_neg (S.getD d'[i] default) (S.getD d'[j] default)
    show cmp (S.getD d'[i] default) (S.getD d'[j] default) ≤ 0
    omega
   obtain ⟨q1, q2⟩ := hW.sorted (fun x : Fin S.length => c.getD x undef) d' h0 hp r5 (by rw [hd']; simp) (cs' := (d'.toList.map fun i : Fin S.length => S.getD i default).map iL) (by simp [hd']) (fun k hk => by
    rw [List.length_map, List.length_map, Array.length_toList] at hk
    rw [hget k hk]
    have : ((d'.toList.map fun i : Fin S.length => S.getD i default).map iL).getD k nv = iL (S.getD d'[k] default) := by simp [List.getD_eq_getElem?_getD, hk]
    rw [this]; exact henc _) m os
   exact ⟨_, rfl, g, .tup [], _, .refl g, hk _ _ hSp hpw (o.put _), .tup [] #[] rfl (by simp), q1, q2⟩
  ·rw [hsz] at hj
   have hjc : j < c.size := by omega
   refine ⟨?_, ?_⟩
   ·simp [World.cell?, r5, hjc, hj]
   ·simp [World.frozen?, r5]
end Go.AW
namespace Go.Proofs.Shf
open Go.AW Go.Proofs Go.Shf Go.RowKit Go.Sort
theorem lib_sortR (S : List (List Int)) [Inhabited (Fin S.length)] (hsz : S.length < 4611686018427387904) : LibSortR S.length fun x y => cmp (S.getD x default) (S.getD y default) := by
 intro b cap w enc h1 hcmp hH hbl
 have eg : ∀ args w, (callFunc 214 args).run Tryz.prog w = .ok (.enter 214 args) w := enters_of Tryz.func214 (by kernel_rfl) rfl
 have h := Any.slices_SortFunc Tryz.sortR enc h1 (fun x y => cmp (S.getD x default) (S.getD y default)) (swo_cmp S) 214 #[] b 0 cap (Array.ofFn fun i => i) w eg hcmp hH hbl (by simpa using hsz)
 exact h
end Go.Proofs.Shf
namespace Go.AW
theorem WRel.cut {g : Gh} {B : Nat} {H : Heap} {w : World} (h : WRel g B H w) {i sz : Nat} {cs z : List AV} (hi : H.get i = some (.cells sz (cs ++ z) 0)) : WRel g B (H.set i (.cells sz cs 0)) w := by
 have hs : ∀ j, ((H.set i (.cells sz cs 0)).get j).isSome → (H.get j).isSome := by
  intro j hj
  by_cases e : j = i
  ·subst e; simp [hi]
  ·rwa [Heap.get_set_ne _ _ e] at hj
 constructor
 ·exact h.fz
 ·exact h.fm
 ·intro j o e
  by_cases hj : j = i
  ·subst hj
   simp at e; subst e
   obtain ⟨p, hp, hr⟩ := h.ob _ _ hi
   refine ⟨p, hp, ?_⟩
   cases p with
   | nil =>
    simp only [ObjRel] at hr ⊢
    exact ⟨(List.append_eq_nil_iff.mp hr.1).1, trivial⟩
   | mp b => simp [ObjRel] at hr
   | blk b cap =>
    simp only [ObjRel, List.length_append] at hr ⊢
    obtain ⟨h1, h2, h3, h4, c, el, h5, h6, h7, h8⟩ := hr
    refine ⟨h1, by omega, by omega, h4, c, el, h5, h6, by omega, fun k hk => ?_⟩
    have := h8 k (by omega)
    rwa [List.getD_eq_getElem?_getD, List.getElem?_append_left hk, ← List.getD_eq_getElem?_getD] at this
  ·rw [Heap.get_set_ne _ _ hj] at e; exact h.ob j o e
 ·intro a b x y z n e1 e2; exact h.inj a b x y z n (hs a e1) (hs b e2)
 ·intro a b x n e1 e2; exact h.injm a b x n (hs a e1) (hs b e2)
 ·exact h.base
 ·exact h.fin
theorem wk_cut {F : Env → Heap → Prop} {σ : Env} {H0 H : Heap} {l : List (Nat × MObj)} {id sz : Nat} {cs z : List AV} (o : Owns H0 H ((id, .cells sz (cs ++ z) 0) :: l)) (hk : ∀ H', Owns H0 H' ((id, .cells sz cs 0) :: l) → wkW F σ H') : wkW F σ H :=
 wkW_step (fun g B w tm hW hE => ⟨g, .refl g, hW.cut o.h0, hE⟩) (hk _ (o.put _))
theorem slb_own {K : Kont} {H0 H : Heap} {l : List (Nat × MObj)} {id sz n : Nat} {cs : List AV} {p : Prop} {r : AV} (o : Owns H0 H ((id, .cells sz cs 0) :: l)) (hn : cs.length = n * sz) (hp : p) (hk : K r H) : slb1 sz n (some (p, r)) (H.get id) K H := by
 have h0 := o.h0
 simp only at h0
 rw [h0]; exact ⟨⟨rfl, hn⟩, hp, hk⟩
theorem rep_all {z : List AV} {p : AV → Prop} (h : ∀ c, c ∈ z → p c) : ∀ n c, c ∈ rep n z → p c
 | 0, c, hc => by simp [rep] at hc
 | n + 1, c, hc => by
  rw [rep, List.mem_append] at hc
  exact hc.elim (h c) (rep_all h n c)
theorem wr_take : ∀ (vs cs : List AV) (o n : Nat), n ≤ o → (wr cs o vs).take n = cs.take n
 | [], _, _, _, _ => rfl
 | v :: vs, cs, o, n, h => by
  rw [wr, wr_take vs _ _ _ (by omega), List.take_set_of_le h]
end Go.AW
namespace Go.Proofs.Shf
open Go.AW Go.Proofs Go.Shf
theorem compact_own (B : Nat) (A : List (List Int)) (hA : A.length ≤ 1048576) {H0 H : Heap} {l : List (Nat × MObj)} {id : Nat} (o : Owns H0 H ((id, .cells 1 (A.map iL) 0) :: l)) :
  CallH Tryz.prog B 225 [.buf id A.length, .fn (.func 110) []] H fun r H' => r = iLL (cpT A) ∧ Owns H0 H' l := by
 refine c225p (by simp) fun _ => ?_
 unfold s225p
 try simp only [go_sem, reduceAdd]
 refine ⟨fun h0 => At.mk ?_, fun h0 => At.mk ?_⟩
 ·have h0p : (A.length : Int) < 2 := of_decide h0
  have e : cpT A = A := by
   rw [cpT, cpK_all (Nat.le_refl _) (fun j hj => ?_), List.take_length]
   exact decide_eq_true (.inl (by omega))
  try simp only [go_sem]
  refine wk_slot 4 (.inr ⟨id, rfl, o⟩) rfl fun H o => wkW_done ?_
  try simp only [go_sem]
  exact ⟨H, .refl H, by rw [e], o⟩
 have h0p : ¬ (A.length : Int) < 2 := of_ndecide h0
 try simp only [go_sem]
 refine awp_while [0, 1] (G := Nat) (fun k => [(5, some (.int .i64 (k : Int)))])
  (fun m k H => m = A.length - k ∧ 1 ≤ k ∧ k ≤ A.length ∧ (∀ j, j < k → kpC A j = true) ∧ Owns H0 H ((id, .cells 1 (A.map iL) 0) :: l)) (A.length - 1) 1 ⟨rfl, by omega, by omega, fun j hj => decide_eq_true (.inl (by omega)), o⟩ rfl ?_
 clear o
 rintro m k H ⟨hm, hk1, hkn, hall, o⟩
 try simp only [go_sem]
 refine ⟨fun h1 => At.mk ?_, fun h1 => At.mk ?_⟩
 ·have h1p : k < A.length := of_decide h1
  have w1 := wsucc (k := k) (by omega)
  have w0 : IntKind.i64.wrap ((k : Int) - 1) = ((k - 1 : Nat) : Int) := by rw [wrap_i64 (by omega) (by omega)]; omega
  try simp only [go_sem, w0]
  refine ⟨h1p, ?_⟩
  refine rd_cells o (by simpa using h1p) ?_
  rw [map_getD _ h1p]
  try simp only [go_sem, w0]
  refine ⟨by omega, ?_⟩
  refine rd_cells o (by simp; omega) ?_
  rw [map_getD _ (show k - 1 < A.length by omega)]
  try simp only [go_sem]
  refine ⟨_, (same_ok B _ _).run, ?_⟩
  by_cases h2 : A.getD k default = A.getD (k - 1) default
  rotate_left 1
  ·rw [dec_f h2]
   try simp only [go_sem, w1]
   exact while_next (A.length - (k + 1)) (k + 1) (by omega) ⟨rfl, by omega, by omega, fun j hj => by
    by_cases e : j = k
    ·subst e; exact decide_eq_true (.inr h2)
    ·exact hall j (by omega), o⟩ rfl
  have hf : kpC A k = false := decide_eq_false fun h => h.elim (by omega) fun h => h h2
  rw [dec_t h2]
  have hck : (cpK A (k + 1)).length = k := by
   rw [cpK_f hf, cpK_all (by omega) hall, List.length_take]; omega
  try simp only [go_sem]
  refine slb_own o (by simp) h1p ?_
  try simp only [go_sem]
  refine awp_while [0, 1, 6] (G := Nat × List (List Int)) (fun g => [(5, some (.int .i64 ((cpK A (k + g.1)).length : Int))), (7, some (.int .i64 (g.1 : Int)))])
   (fun m g H => m = A.length - (k + g.1) ∧ 1 ≤ g.1 ∧ k + g.1 ≤ A.length ∧ CpInv A (k + g.1) g.2 ∧ Owns H0 H ((id, .cells 1 (g.2.map iL) 0) :: l)) (A.length - (k + 1)) (1, A)
   ⟨rfl, by omega, by omega, CpInv.start h1p hall hf, o⟩ (by simp only [hck]; rfl) ?_
  clear o
  rintro m2 ⟨k2, D⟩ H ⟨hm2, hk21, hk2n, hI, o⟩
  dsimp only at hm2 hk21 hk2n hI o
  have hDl := hI.len
  have hcl := cpK_short hf (k + k2) (by omega)
  try simp only [go_sem]
  refine ⟨fun h3 => At.mk ?_, fun h3 => At.mk ?_⟩
  ·have h3p : k2 < A.length - k := of_decide h3
   have h3q : k + k2 < A.length := by omega
   have w3 := wsucc (k := k2) (by omega)
   have w4 := wsucc (k := (cpK A (k + k2)).length) (by omega)
   have w2 : IntKind.i64.wrap ((k2 : Int) - 1) = ((k2 - 1 : Nat) : Int) := by rw [wrap_i64 (by omega) (by omega)]; omega
   have hd1 := hI.tail (k + k2) (by omega)
   have hd2 := hI.tail (k + (k2 - 1)) (by omega)
   try simp only [go_sem, w2]
   refine ⟨h3p, ?_⟩
   refine rd_cells o (by simp; omega) ?_
   rw [map_getD _ (by omega), hd1]
   try simp only [go_sem, w2]
   refine ⟨by omega, ?_⟩
   refine rd_cells o (by simp; omega) ?_
   rw [map_getD _ (by omega), hd2, show k + (k2 - 1) = k + k2 - 1 by omega]
   try simp only [go_sem]
   refine ⟨_, (same_ok B _ _).run, ?_⟩
   by_cases h4 : A.getD (k + k2) default = A.getD (k + k2 - 1) default
   ·have hf2 : kpC A (k + k2) = false := decide_eq_false fun h => h.elim (by omega) fun h => h h4
    rw [dec_t h4]
    try simp only [go_sem, w3]
    exact while_next (A.length - (k + (k2 + 1))) (k2 + 1, D) (by omega) ⟨rfl, by omega, by omega, hI.skip hf2, o⟩ (by rw [← Nat.add_assoc, cpK_f hf2])
   ·have ht2 : kpC A (k + k2) = true := decide_eq_true (.inr h4)
    rw [dec_f h4]
    try simp only [go_sem]
    refine ⟨h3p, ?_⟩
    refine rd_cells o (by simp; omega) ?_
    rw [map_getD _ (by omega), hd1]
    try simp only [go_sem]
    refine ⟨by omega, ?_⟩
    refine set_own (f := iL) (A.getD (k + k2) default) o rfl (by omega) fun H o => ?_
    try simp only [go_sem, w3, w4]
    exact while_next (A.length - (k + (k2 + 1))) (k2 + 1, D.set (cpK A (k + k2)).length (A.getD (k + k2) default)) (by omega) ⟨rfl, by omega, by omega, hI.keep h3q hcl ht2, o⟩ (by rw [← Nat.add_assoc, cpK_t ht2, List.length_append]; rfl)
  have h3p : ¬ k2 < A.length - k := of_ndecide h3
  have hend : k + k2 = A.length := by omega
  rw [hend] at hI hcl ⊢
  have hct : (cpT A).length = (cpK A A.length).length := rfl
  try simp only [go_sem]
  refine slb_own o (by simp [hDl]) hcl ?_
  try simp only [go_sem, reduceAdd]
  refine ⟨by omega, ?_⟩
  refine st_cells o (by simp; omega) (by simp [rep_length]) (fun c hc => ?_) fun H o => ?_
  ·rw [rep_all (p := fun c => c = .nilsl) (by simp) _ c hc]; rfl
  try simp only [go_sem]
  have hw : ∃ Z, wr (D.map iL) (cpK A A.length).length (rep (A.length - (cpK A A.length).length) [.nilsl]) = (cpT A).map iL ++ Z := by
   refine ⟨(wr (D.map iL) (cpK A A.length).length (rep (A.length - (cpK A A.length).length) [.nilsl])).drop (cpK A A.length).length, ?_⟩
   have h5 := wr_take (rep (A.length - (cpK A A.length).length) [.nilsl]) (D.map iL) (cpK A A.length).length (cpK A A.length).length (Nat.le_refl _)
   have h6 : (D.map iL).take (cpK A A.length).length = (cpT A).map iL := by rw [← List.map_take]; exact congrArg _ hI.take
   rw [← h6, ← h5, List.take_append_drop]
  refine slb_own o (by rw [wr_length]; simp [hDl]) ⟨by omega, by omega⟩ ?_
  try simp only [go_sem]
  obtain ⟨Z, hZ⟩ := hw
  rw [hZ] at o
  refine wk_cut o fun H o => wk_slot 4 (.inr ⟨id, rfl, o⟩) rfl fun H o => wkW_done ?_
  try simp only [go_sem]
  exact ⟨H, .refl H, rfl, o⟩
 ·have h1p := of_ndecide h1
  have e : cpT A = A := by rw [cpT, cpK_all (Nat.le_refl _) (fun j hj => hall j (by omega)), List.take_length]
  try simp only [go_sem]
  refine wk_slot 4 (.inr ⟨id, rfl, o⟩) rfl fun H o => wkW_done ?_
  try simp only [go_sem]
  exact ⟨H, .refl H, by rw [e], o⟩
end Go.Proofs.Shf
namespace Go.Proofs.Shf
open Go.AW Go.Proofs Go.Shf Go.RowKit Go.Sort
theorem sort_noneR (B : Nat) {H : Heap} {id : Nat} {K : Kont} (hk : K (.tup []) H) : CallH Tryz.prog B 295 [.buf id 0, .fn (.func 214) []] H K := by
 refine ⟨⟨_, Tryz.func295, by kernel_rfl, by kernel_rfl⟩, fun g w vs hW hv => ?_⟩
 obtain ⟨hv0, hv1⟩ := hv
 obtain ⟨v0, v1, rfl⟩ : ∃ v0 v1, vs = #[v0, v1] := by
  rcases vs with ⟨l⟩
  simp only [List.length_cons, List.length_nil] at hv0
  match l, hv0 with
  | [a, b], _ => exact ⟨a, b, rfl⟩
 have e0 : VRel g (.buf id 0) v0 := hv1 0 (by simp)
 obtain ⟨p, cap, rfl⟩ : ∃ p cap, v0 = .slice p 0 cap := by
  cases e0 with
  | bufnil _ _ => exact ⟨_, _, rfl⟩
  | buf _ _ _ _ _ => exact ⟨_, _, rfl⟩
 refine (AnyF.slices_SortFunc_none { Tryz.sortR with } p cap v1 w).mono ?_
 rintro e w' ⟨rfl, rfl⟩
 exact ⟨_, rfl, g, .tup [], H, .refl g, hk, .tup [] #[] rfl (by simp), hW, .refl B _⟩
theorem sort_anyR (B : Nat) (S : List (List Int)) (hS : S.length < 4611686018427387904) {H0 H : Heap} {l : List (Nat × MObj)} {id : Nat} {K : Kont}
  (o : Owns H0 H ((id, .cells 1 (S.map iL) 0) :: l)) (hk : ∀ (H' : Heap) (S' : List (List Int)), S'.Perm S → (S'.Pairwise fun s t => cmp s t ≤ 0) → Owns H0 H' ((id, .cells 1 (S'.map iL) 0) :: l) → K (.tup []) H') :
  CallH Tryz.prog B 295 [.buf id S.length, .fn (.func 214) []] H K := by
 by_cases h : S = []
 ·subst h
  exact sort_noneR B (hk H [] (.refl _) .nil o)
 ·have : Inhabited (Fin S.length) := ⟨⟨0, List.length_pos_iff.mpr h⟩⟩
  exact sort_ownR B S (lib_sortR S hS) ⟨_, Tryz.func295, by kernel_rfl, by kernel_rfl⟩ o hk
end Go.Proofs.Shf
namespace Go.Proofs.Shf
open Go.AW Go.Proofs Go.Shf
theorem distinct_own (B : Nat) (S : List (List Int)) (hS : S.length ≤ 1048576) {H0 H : Heap} {l : List (Nat × MObj)} {id : Nat} (o : Owns H0 H ((id, .cells 1 (S.map iL) 0) :: l)) :
  CallH Tryz.prog B 108 [.buf id S.length] H fun r H' => ∃ T, r = iLL T ∧ (∀ t, t ∈ T ↔ t ∈ S) ∧ (T.Pairwise fun a b => cmp a b < 0) ∧ Owns H0 H' l := by
 refine c108 (by simp) fun _ => ?_
 unfold s108
 try simp only [go_sem, reduceAdd]
 have asc : CallH Tryz.prog B 226 [.buf id S.length] H fun r H' => ∃ S' : List (List Int), r = .buf id S.length ∧ S'.Perm S ∧ (S'.Pairwise fun a b => cmp a b ≤ 0) ∧ Owns H0 H' ((id, .cells 1 (S'.map iL) 0) :: l) := by
  refine c226p (by simp) fun _ => ?_
  unfold s226p
  try simp only [go_sem, reduceAdd]
  refine sort_anyR B S (by omega) o fun H S' hp hs o => ?_
  try simp only [go_sem]
  exact ⟨H, .refl H, S', rfl, hp, hs, o⟩
 refine asc.mono ?_
 rintro r H ⟨S', rfl, hp, hs, o⟩
 try simp only [go_sem]
 rw [← hp.length_eq]
 refine (compact_own B S' (by rw [hp.length_eq]; exact hS) o).mono ?_
 rintro r H ⟨rfl, o⟩
 try simp only [go_sem]
 exact ⟨H, .refl H, cpT S', rfl, fun t => mem_cpT.trans hp.mem_iff, cpT_sorted hs, o⟩
end Go.Proofs.Shf
namespace Go.Proofs.Shf
open Go.AW Go.Proofs Go.Shf
theorem l01Number_ok (B : Nat) (s t : List Int) (hs : Sm s) (h : InB s t) : Pur Tryz.prog B 227 [iL s, iL t] (iI (numT s t)) := by
 refine ⟨fun H0 => c227 (by simp) fun _ => ?_⟩
 unfold s227
 have hl := h.len
 have h4 := hs.1
 try simp only [go_sem, reduceAdd]
 refine awp_for [0, 1] (fun k _ => [(5, some (iI (numT (s.take k) (t.take k)))), (6, some (.int .i64 (k : Int)))]) (fun k _ H => H = H0) t.length () rfl rfl ?_
 rintro k _ H hk rfl
 try simp only [go_sem]
 refine ⟨fun h1 => At.mk ?_, fun h1 => At.mk ?_⟩
 ·have h1p : k < t.length := of_decide h1
  have w1 := wsucc (k := k) (by omega)
  have hn := numT_lt (h.take k)
  have hp := (hs.take k).2
  have hsk := hs.2 _ (mem_getD.mpr ⟨k, by omega, rfl⟩)
  have htk := h.at k (by omega)
  have hm : numT (s.take k) (t.take k) * s.getD k default ≤ 65536 * 16 := Int.mul_le_mul (by omega) hsk.2 hsk.1 (by omega)
  have hm0 : 0 ≤ numT (s.take k) (t.take k) * s.getD k default := Int.mul_nonneg hn.1 hsk.1
  have w2 : IntKind.i64.wrap (numT (s.take k) (t.take k) * s.getD k default) = numT (s.take k) (t.take k) * s.getD k default := wrap_i64 (by omega) (by omega)
  have w3 : IntKind.i64.wrap (numT (s.take k) (t.take k) * s.getD k default + t.getD k default) = numT (s.take k) (t.take k) * s.getD k default + t.getD k default := wrap_i64 (by omega) (by omega)
  try simp only [go_sem]
  refine ⟨by omega, ?_⟩
  try simp only [go_sem, w2]
  refine ⟨h1p, ?_⟩
  try simp only [go_sem, w2, w3, w1]
  exact for_next () h1p rfl (by rw [numT_take hl (by omega)])
 ·have h1p := of_ndecide h1
  obtain rfl : k = t.length := by omega
  try simp only [go_sem]
  exact pure_ret (by rw [List.take_length, hl, List.take_length]) (.refl _)
theorem sm_szO {f : SF} {q : QS} (hf : f.Is) (hq : q.Ok f.shape) : Sm (szO f q) := ⟨by rw [szO, List.length_map]; exact hq.o4, szO_bd hf hq⟩
noncomputable def markK (f : SF) (q : QS) (k : Nat) : List Bool := (List.range (prodT (szO f q)).toNat).map fun j : Nat => dec (∃ i, i < k ∧ numT (szO f q) (thenT q.o ((solQ f q).getD i default)) = (j : Int))
theorem markK_zero (f : SF) (q : QS) : markK f q 0 = List.replicate (prodT (szO f q)).toNat false := by
 refine List.ext_getElem (by simp [markK]) fun i h1 h2 => ?_
 simp only [markK, List.getElem_map, List.getElem_range, List.getElem_replicate]
 exact dec_f fun ⟨j, hj, _⟩ => by omega
theorem markK_succ (f : SF) (q : QS) (k : Nat) {n : Int} (hn : numT (szO f q) (thenT q.o ((solQ f q).getD k default)) = n) (h0 : 0 ≤ n) : (markK f q k).set n.toNat true = markK f q (k + 1) := by
 refine List.ext_getElem (by simp [markK]) fun j h1 h2 => ?_
 simp only [markK, List.getElem_set, List.getElem_map, List.getElem_range]
 by_cases e : n.toNat = j
 ·rw [if_pos e, dec_t ⟨k, by omega, by rw [hn]; omega⟩]
 ·rw [if_neg e]
  refine dec_congr ⟨fun ⟨i, hi, h⟩ => ⟨i, by omega, h⟩, fun ⟨i, hi, h⟩ => ?_⟩
  by_cases c : i = k
  ·subst c; rw [hn] at h; omega
  ·exact ⟨i, by omega, h⟩
theorem markK_get (f : SF) (q : QS) {j : Nat} (hj : j < (prodT (szO f q)).toNat) : (markK f q (solQ f q).length).getD j default = dec (∃ s, s ∈ solQ f q ∧ numT (szO f q) (thenT q.o s) = (j : Int)) := by
 rw [markK, getD_map_range _ _ hj]
 refine dec_congr ⟨fun ⟨i, hi, h⟩ => ⟨_, mem_getD.mpr ⟨i, hi, rfl⟩, h⟩, fun ⟨s, hs, h⟩ => ?_⟩
 obtain ⟨i, hi, rfl⟩ := mem_getD.mp hs
 exact ⟨i, hi, h⟩
theorem l38Rows_ok (B : Nat) (f : SF) (hf : f.Is) (q : QS) (hq : q.Ok f.shape) (hP : prodT (szT f q.v) ≤ 4096) : Pur Tryz.prog B 109 [.agg f.cells, .agg q.cells] (iLL (rowsQ f q)) := by
 refine ⟨fun H0 => c109p (by simp) fun _ => ?_⟩
 unfold s109p
 have o : Owns H0 H0 [] := .nil _
 have hSm := sm_szO hf hq
 have hpt := hSm.take (szO f q).length
 rw [List.take_length] at hpt
 have hsl := solK_len f q (prodT (szT f q.v)).toNat
 rw [solK_all] at hsl
 have ho4 := hq.o4
 have hv4 := hq.v4
 have hol : (szO f q).length = q.o.length := by simp [szO]
 try simp only [go_sem, reduceAdd]
 refine (l38Solutions_ok B f hf q hq hP).go fun _ => ?_
 try simp only [go_sem]
 refine new_list iI o fun id H o => ?_
 try simp only [go_sem]
 refine awp_for [2, 3, 5] (G := Nat × List Int) (fun k g => [(6, some (.buf g.1 g.2.length)), (7, some (.int .i64 (k : Int)))])
  (fun k g H => g.2 = (szO f q).take k ∧ Owns H0 H [(g.1, .cells 1 (g.2.map iI) 0)]) q.o.length (id, []) ⟨by simp, o⟩ rfl ?_
 clear o
 rintro k ⟨id, out⟩ H hk ⟨hout, o⟩
 dsimp only at hout o
 try simp only [go_sem, reduceAdd, reduceLeDiff]
 refine ⟨fun h1 => At.mk ?_, fun h1 => At.mk ?_⟩
 ·have h1p : k < q.o.length := of_decide h1
  have w1 := wsucc (k := k) (by omega)
  have hok := hq.oAt (mem_getD.mpr ⟨k, h1p, rfl⟩)
  have hslz := hf.1.sl
  try simp only [go_sem, reduceAdd, reduceLeDiff]
  refine ⟨h1p, ?_⟩
  refine ⟨hok.1, ?_⟩
  refine ⟨⟨hok.2.1, by omega⟩, ?_⟩
  refine app_own (ix f.sizes (ix q.v (q.o.getD k default))) o rfl rfl (by rw [hout, List.length_take]; simp only [maxL]; omega) fun z H o => ?_
  try simp only [go_sem, w1]
  refine for_next (z, out ++ [ix f.sizes (ix q.v (q.o.getD k default))]) h1p ⟨?_, o⟩ rfl
  rw [hout, take_one _ (by omega), szO, map_getD _ h1p]
 have h1p := of_ndecide h1
 obtain rfl : k = q.o.length := by omega
 rw [← hol, List.take_length] at hout
 subst hout
 try simp only [go_sem]
 refine fz_own o rfl fun H o => ?_
 try simp only [go_sem]
 refine (l01Total_ok B _ hSm).go fun _ => ?_
 try simp only [go_sem]
 obtain ⟨n, hn⟩ : ∃ n : Nat, prodT (szO f q) = n := ⟨_, (Int.toNat_of_nonneg hpt.1).symm⟩
 rw [hn]
 try simp only [go_sem]
 refine ⟨⟨by omega, by simp only [maxL]; omega⟩, mks_list AV.bool false rfl o fun id9 H o => ?_⟩
 try simp only [go_sem]
 refine new_list iL o fun id10 H o => ?_
 try simp only [go_sem]
 have hsolin : ∀ i, i < (solQ f q).length → InB (szT f q.v) ((solQ f q).getD i default) := fun i hi => ((mem_solQ hf hq).mp (mem_getD.mpr ⟨i, hi, rfl⟩)).1
 refine awp_for [3, 5, 6, 8, 9, 10] (fun k _ => [(11, some (.int .i64 (k : Int)))])
  (fun k _ H => Owns H0 H [(id10, .cells 1 (([] : List (List Int)).map iL) 0), (id9, .cells 1 ((markK f q k).map AV.bool) 0)]) (solQ f q).length () (by rw [markK_zero, hn]; exact o) rfl ?_
 clear o
 rintro k _ H hk o
 have hml : (markK f q k).length = n := by simp [markK, hn]
 try simp only [go_sem]
 refine ⟨fun h1 => At.mk ?_, fun h1 => At.mk ?_⟩
 ·have h1p : k < (solQ f q).length := of_decide h1
  have w1 := wsucc (k := k) (by omega)
  have hi := hsolin k h1p
  have hil := hi.len
  rw [szT_len] at hil
  have hnum := numT_lt (then_in hq hi)
  try simp only [go_sem, reduceAdd, reduceLeDiff]
  refine ⟨h1p, ?_⟩
  refine ⟨_, (l01Then_ok B _ _ fun y hy => by have := hq.ov y hy; omega).run, ?_⟩
  refine ⟨_, (l01Number_ok B (szO f q) (thenT q.o ((solQ f q).getD k default)) hSm (then_in hq hi)).run, ?_⟩
  try simp only [go_sem]
  refine ⟨⟨hnum.1, by omega⟩, ?_⟩
  refine set_own (f := AV.bool) true o.swap rfl (by omega) fun H o => ?_
  rw [markK_succ f q k rfl hnum.1] at o
  try simp only [go_sem, w1]
  exact for_next () h1p o.swap rfl
 have h1p := of_ndecide h1
 obtain rfl : k = (solQ f q).length := by omega
 try simp only [go_sem]
 refine awp_for [6, 8, 9] (G := Nat × List (List Int)) (fun j g => [(10, some (.buf g.1 g.2.length)), (12, some (.int .i64 (j : Int)))])
  (fun j g H => g.2 = ((List.range j).filter fun k : Nat => dec (∃ s, s ∈ solQ f q ∧ numT (szO f q) (thenT q.o s) = (k : Int))).map (fun k : Nat => atT (szO f q) k) ∧
   Owns H0 H [(g.1, .cells 1 (g.2.map iL) 0), (id9, .cells 1 ((markK f q (solQ f q).length).map AV.bool) 0)]) n (id10, []) ⟨rfl, o⟩ rfl ?_
 clear o
 rintro j ⟨id10, out⟩ H hj ⟨hout, o⟩
 dsimp only at hout o
 have houl : out.length ≤ j := by rw [hout, List.length_map]; exact Nat.le_trans (List.length_filter_le _ _) (by simp)
 try simp only [go_sem]
 refine ⟨fun h2 => At.mk ?_, fun h2 => At.mk ?_⟩
 ·have h2p : j < n := by have := of_decide h2; omega
  have w2 := wsucc (k := j) (by omega)
  have hg := markK_get f q (j := j) (by omega)
  try simp only [go_sem]
  refine ⟨by omega, ?_⟩
  refine rd_cells o.swap (by simp; omega) ?_
  rw [map_getD _ (by omega), hg]
  by_cases hm : ∃ s, s ∈ solQ f q ∧ numT (szO f q) (thenT q.o s) = (j : Int)
  ·rw [dec_t hm]
   try simp only [go_sem]
   refine (l01At_ok B _ hSm (fun a ha => ?_) _ ⟨by omega, by omega⟩).go fun _ => ?_
   ·have h1 := (hSm.2 a ha).1
    by_cases e : a = 0
    ·subst e; rw [prodT_zero ha] at hn; omega
    ·omega
   try simp only [go_sem, reduceAdd]
   refine app_own (atT (szO f q) j) o rfl rfl (by simp only [maxL]; omega) fun z H o => ?_
   try simp only [go_sem, w2]
   refine for_next (z, out ++ [atT (szO f q) j]) h2p ⟨?_, o⟩ rfl
   rw [hout, range_succ_filter, if_pos (dec_t hm), List.map_append]; rfl
  ·rw [dec_f hm]
   try simp only [go_sem, w2]
   refine for_next (id10, out) h2p ⟨?_, o⟩ rfl
   rw [hout, range_succ_filter, if_neg (by rw [dec_f hm]; simp), List.append_nil]
 have h2p : ¬ j < n := by have := of_ndecide h2; omega
 have ej : j = n := by omega
 rw [ej] at hout
 try simp only [go_sem]
 refine fz_own o rfl fun H o => ?_
 try simp only [go_sem]
 exact pure_ret (by rw [rows_marks hf hq, hn, hout]; rfl) o.sub
noncomputable def ansR (f : SF) (q : QS) : List (List Int) := if codQ f q = 0 then rowsQ f q else []
theorem rows_uniq {f : SF} {q : QS} (hf : f.Is) (hq : q.Ok f.shape) {T : List (List Int)} (h1 : ∀ t, t ∈ T ↔ t ∈ (solQ f q).map (thenT q.o)) (h2 : T.Pairwise fun a b => cmp a b < 0) : T = rowsQ f q :=
 asc_uniq h2 (rowsQ_sorted hf hq) fun t => by rw [h1, List.mem_map, mem_rowsQ hf hq]
theorem runQuery_ok (B : Nat) (f : SF) (q : QS) : Pur Tryz.prog B 40 [.agg f.cells, .agg q.cells] (.tup [iLL (ansR f q), iI (codQ f q)]) := by
 refine ⟨fun H0 => c40p (by simp) fun _ => ?_⟩
 unfold s40p
 have o : Owns H0 H0 [] := .nil _
 try simp only [go_sem, reduceAdd]
 refine (solutionsCode_ok B f q).go fun _ => ?_
 by_cases hC : codQ f q = 0
 rotate_left 1
 ·have e : ansR f q = [] := by rw [ansR, if_neg hC]
  try simp only [go_sem, reduceAdd, reduceLT]
  rw [decide_eq_false hC]
  try simp only [go_sem]
  exact pure_ret (by rw [e]; rfl) (.refl _)
 obtain ⟨⟨hf, hq⟩, hP⟩ := codQ_0 hC
 have hA : ansQ f q = solQ f q := by rw [ansQ, if_pos hC]
 have hsl := ansQ_len f q
 rw [hA] at hsl
 rw [hC, hA]
 try simp only [go_sem, reduceAdd, reduceLT, dTrue]
 refine new_list iL o fun id H o => ?_
 try simp only [go_sem]
 refine awp_for [3, 19, 20] (G := Nat × List (List Int)) (fun k g => [(8, some (.buf g.1 g.2.length)), (21, some (.int .i64 (k : Int)))])
  (fun k g H => g.2 = ((solQ f q).take k).map (thenT q.o) ∧ Owns H0 H [(g.1, .cells 1 (g.2.map iL) 0)]) (solQ f q).length (id, []) ⟨by simp, o⟩ rfl ?_
 clear o
 rintro k ⟨id, out⟩ H hk ⟨hout, o⟩
 dsimp only at hout o
 have houl : out.length ≤ k := by rw [hout, List.length_map, List.length_take]; omega
 try simp only [go_sem]
 refine ⟨fun h1 => At.mk ?_, fun h1 => At.mk ?_⟩
 ·have h1p : k < (solQ f q).length := of_decide h1
  have w1 := wsucc (k := k) (by omega)
  have hil := (((mem_solQ hf hq).mp (mem_getD.mpr ⟨k, h1p, rfl⟩)).1).len
  rw [szT_len] at hil
  try simp only [go_sem, reduceAdd, reduceLeDiff]
  refine ⟨h1p, ?_⟩
  refine ⟨_, (then_ok B _ _ fun y hy => by have := hq.ov y hy; omega).run, ?_⟩
  try simp only [go_sem, reduceAdd]
  refine app_own (thenT q.o ((solQ f q).getD k default)) o rfl rfl (by simp only [maxL]; omega) fun z H o => ?_
  try simp only [go_sem, w1]
  exact for_next (z, out ++ [thenT q.o ((solQ f q).getD k default)]) h1p ⟨by rw [hout, take_one _ h1p, List.map_append]; rfl, o⟩ rfl
 have h1p := of_ndecide h1
 obtain rfl : k = (solQ f q).length := by omega
 rw [List.take_length] at hout
 try simp only [go_sem]
 refine (distinct_own B out (by omega) o).mono ?_
 rintro r H ⟨T, rfl, hT, hs, o⟩
 try simp only [go_sem]
 rw [hout] at hT
 exact pure_ret (by rw [ansR, if_pos hC, rows_uniq hf hq hT hs]) o.sub
end Go.Proofs.Shf
namespace Go.Proofs.Shf
open Go.AW Go.Proofs Go.Shf
noncomputable def supC (f : SF) (q : QS) (r : List Int) : Int := if codQ f q = 0 then (if supQ f q r = [] then 4 else 0) else codQ f q
noncomputable def supA (f : SF) (q : QS) (r : List Int) : List (List Int) := if codQ f q = 0 then supQ f q r else []
theorem rowSupport_ok (B : Nat) (f : SF) (q : QS) (r : List Int) : Pur Tryz.prog B 42 [.agg f.cells, .agg q.cells, iL r] (.tup [iLL (supA f q r), iI (supC f q r)]) := by
 refine ⟨fun H0 => c42p (by simp) fun _ => ?_⟩
 unfold s42p
 have o : Owns H0 H0 [] := .nil _
 try simp only [go_sem, reduceAdd]
 refine (solutionsCode_ok B f q).go fun _ => ?_
 by_cases hC : codQ f q = 0
 rotate_left 1
 ·try simp only [go_sem, reduceAdd, reduceLT]
  rw [decide_eq_false hC]
  try simp only [go_sem]
  exact pure_ret (by rw [supA, supC, if_neg hC, if_neg hC]; rfl) (.refl _)
 obtain ⟨⟨hf, hq⟩, hP⟩ := codQ_0 hC
 have hA : ansQ f q = solQ f q := by rw [ansQ, if_pos hC]
 have hsl := ansQ_len f q
 rw [hA] at hsl
 rw [hC, hA]
 try simp only [go_sem, reduceAdd, reduceLT, dTrue]
 refine new_list iL o fun id H o => ?_
 try simp only [go_sem]
 refine awp_for [2, 4, 21, 22] (G := Nat × List (List Int)) (fun k g => [(10, some (.buf g.1 g.2.length)), (23, some (.int .i64 (k : Int)))])
  (fun k g H => g.2 = ((solQ f q).take k).filter (fun s => decide (thenT q.o s = r)) ∧ Owns H0 H [(g.1, .cells 1 (g.2.map iL) 0)]) (solQ f q).length (id, []) ⟨by simp, o⟩ rfl ?_
 clear o
 rintro k ⟨id, out⟩ H hk ⟨hout, o⟩
 dsimp only at hout o
 have houl : out.length ≤ k := by rw [hout]; exact filt_len _ _ _
 try simp only [go_sem]
 refine ⟨fun h1 => At.mk ?_, fun h1 => At.mk ?_⟩
 ·have h1p : k < (solQ f q).length := of_decide h1
  have w1 := wsucc (k := k) (by omega)
  have hil := (((mem_solQ hf hq).mp (mem_getD.mpr ⟨k, h1p, rfl⟩)).1).len
  rw [szT_len] at hil
  try simp only [go_sem, reduceAdd, reduceLeDiff]
  refine ⟨h1p, ?_⟩
  refine ⟨_, (then_ok B _ _ fun y hy => by have := hq.ov y hy; omega).run, ?_⟩
  refine ⟨_, (same_ok B (thenT q.o ((solQ f q).getD k default)) r).run, ?_⟩
  by_cases h2 : thenT q.o ((solQ f q).getD k default) = r
  ·rw [dec_t h2]
   try simp only [go_sem, reduceAdd]
   refine app_own ((solQ f q).getD k default) o rfl rfl (by simp only [maxL]; omega) fun z H o => ?_
   try simp only [go_sem, w1]
   exact for_next (z, out ++ [(solQ f q).getD k default]) h1p ⟨by rw [filt_t h1p (decide_eq_true h2), ← hout], o⟩ rfl
  ·rw [dec_f h2]
   try simp only [go_sem, w1]
   exact for_next (id, out) h1p ⟨by rw [filt_f h1p (decide_eq_false h2), ← hout], o⟩ rfl
 have h1p := of_ndecide h1
 have ek : k = (solQ f q).length := by omega
 rw [ek, List.take_length] at hout
 replace hout : out = supQ f q r := hout
 try simp only [go_sem]
 by_cases h3 : supQ f q r = []
 ·rw [decide_eq_true (show (out.length : Int) = 0 by rw [hout, h3]; rfl)]
  try simp only [go_sem]
  exact pure_ret (by rw [supA, supC, if_pos hC, if_pos hC, if_pos h3, h3]; rfl) o.sub
 ·rw [decide_eq_false (show ¬ (out.length : Int) = 0 from fun e => h3 (by rw [← hout]; exact List.eq_nil_of_length_eq_zero (by omega)))]
  try simp only [go_sem]
  refine fz_own o rfl fun H o => ?_
  try simp only [go_sem]
  exact pure_ret (by rw [supA, supC, if_pos hC, if_pos hC, if_neg h3, hout]) o.sub
end Go.Proofs.Shf
namespace Go.Proofs
open Go.Shelf
end Go.Proofs
namespace Go.Proofs.Shf
open Go.AW Go.Proofs Go.Shf Go.RowKit Go.Sort
end Go.Proofs.Shf
namespace Go.Proofs.Shf
open Go.AW Go.Proofs Go.Shf
end Go.Proofs.Shf
