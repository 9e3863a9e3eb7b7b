/- A part of a proof. -/
import Derived.Test.YtadpkiiglobmpaaGreatF10
import Derived.Shelf.SlSortCmp.WholeK
import Derived.Deep.Slices
import Derived.SizedLaws
set_option linter.unusedVariables false
set_option linter.unusedSimpArgs false
set_option linter.unusedSectionVars false
open Nat (reduceEqDiff reduceAdd reduceMul reduceLeDiff reduceLT)
namespace Go.Proofs.Shf
open Go.AW Go.Proofs Go.Shf Go.RowKit Go.Sort
theorem flat_one {α : Type} [Inhabited α] (e : α → Value) (d : Array α) : flatK (fun x => [e x]) 1 d = d.map e := by
 refine Array.ext (by simp) fun t h1 h2 => ?_
 have ht : t < d.size := by simpa using h2
 rw [← getElem!_pos _ t h1, get_flatK _ _ _ t (by simpa using ht)]
 simp [Nat.mod_one, ht]
theorem putRow_one {α : Type} [Inhabited α] (e : α → Value) (w : World) (b off : Nat) (d : Array α) : putRowK (fun x => [e x]) 1 w b off d = putRow e w b off d := by
 rw [putRowK, flat_one, putRow, putRow]
 congr 1
 funext c
 simp only [putCells, Array.size_map]
 congr 1
 funext k x
 split
 ·rename_i h
  have : k - off < d.size := by omega
  simp [this]
 ·rfl
theorem holds_one {α : Type} [Inhabited α] {e : α → Value} {w : World} {b off : Nat} {d : Array α} (h : Holds e w b off d) : HoldsK (fun x => [e x]) 1 w b off d := by
 intro j hj
 rw [flat_one, Array.size_map] at hj
 have := h j hj
 rw [flat_one]
 simpa [hj] using this
theorem swo_cmpL {n : Nat} (S : List (List (List Int))) : SWO (ltOf fun x y : Fin n => cmpL (S.getD x default) (S.getD y default)) where
 irrefl x := by simp [ltOf, cmpL_zero.mpr rfl]
 trans x y z h1 h2 := decide_eq_true (cmpL_trans (of_decide_eq_true h1) (of_decide_eq_true h2))
 ntrans x y z h1 h2 := decide_eq_false (cmpL_ntr (of_decide_eq_false h1) (of_decide_eq_false h2))
theorem cmpL_lays {g : Gh} {B : Nat} {H : Heap} {w : World} (h : WRel g B H w) (S : Nat → List (List Int)) (b size : Nat) (hfz : ∀ o, g.fz b o = none) (hfm : g.fm b = none) {α : Type} [Inhabited α] (nm : α → Nat) (enc : α → Value) (hv : ∀ x, VRel g (iLL (S (nm x))) (enc x)) :
  CmpLays Tryz.prog 224 #[] (fun x => [enc x]) 1 (fun x y => cmpL (S (nm x)) (S (nm y))) b 0 size w := by
 intro m os dk hs x y
 rw [sortWorldK, putRow_one]
 have hW := h.other b hfz hfm fun k hk hl => row_other enc w b 0 m dk os k hk hl
 generalize (Sort.grow (Sort.putRow enc (Sort.ahead w m) b 0 dk) os) = W at hW ⊢
 have hc := (cmpPart_ok W.heap.size (S (nm x)) (S (nm y))).run []
 have hag : ∀ x, VRel g (PE (S (nm x))) (.agg #[enc x]) := fun x => .agg _ _ rfl fun i hi => by
  have : i = 0 := by simpa using hi
  subst this; exact hv x
 refine (hc.2 g W _ hW ⟨rfl, fun i hi => ?_⟩).mono ?_
 ·obtain rfl | rfl : i = 0 ∨ i = 1 := by simp only [List.length_cons, List.length_nil] at hi; omega
  ·exact hag x
  ·exact hag y
 rintro e w' ⟨v, rfl, g', r, H', _, ⟨rfl, rfl⟩, hv2, _, hb⟩
 cases hv2
 exact ⟨rfl, below_grow hb⟩
theorem sortPart_own (B : Nat) (S : List (List (List Int))) (hpos : 0 < S.length) (hbig : S.length < 4611686018427387904) {H0 H : Heap} {l : List (Nat × MObj)} {id : Nat} {K : Kont}
  (o : Owns H0 H ((id, .cells 1 (S.map iLL) 0) :: l)) (hk : ∀ (H' : Heap) (S' : List (List (List Int))), S'.Perm S → Owns H0 H' ((id, .cells 1 (S'.map iLL) 0) :: l) → K (.tup []) H') :
  CallH Tryz.prog B 223 [.buf id S.length, .fn (.func 224) []] H K := by
 letI : Inhabited (Fin S.length) := ⟨⟨0, hpos⟩⟩
 refine ⟨⟨_, Tryz.func223, by kernel_rfl, by kernel_rfl⟩, fun g w vs hW hv => ?_⟩
 have hS0 : 0 < S.length := hpos
 have h0 := o.h0
 simp only at h0
 obtain ⟨p, hp, hr⟩ := hW.ob id _ h0
 cases p with
 | nil => simp only [ObjRel] at hr; have := hr.1; simp at this; rw [this] at hS0; simp at hS0
 | mp b => simp [ObjRel] at hr
 | blk b cap =>
  simp only [ObjRel] at hr
  obtain ⟨r1, r2, r3, r4, c, el, r5, r6, r7, r8⟩ := hr
  rw [List.length_map] at r7 r8
  obtain ⟨hv0, hv1⟩ := hv
  obtain ⟨v0, v1, rfl⟩ : ∃ v0 v1, vs = #[v0, v1] := by
   rcases vs with ⟨l⟩
   simp only [List.length_cons, List.length_nil] at hv0
   match l, hv0 with
   | [a, b], _ => exact ⟨a, b, rfl⟩
  have e0 : VRel g (.buf id S.length) v0 := hv1 0 (by simp)
  have e1 : VRel g (.fn (.func 224) []) v1 := hv1 1 (by simp)
  have hv0' : ∃ cap', v0 = .slice (some ⟨b, 0, none⟩) S.length cap' := by
   generalize hn : S.length = n at *
   cases e0 with
   | bufnil _ hq => rw [hq] at hp; cases hp
   | buf _ _ b' cap' hq => rw [hq] at hp; cases hp; exact ⟨_, rfl⟩
  obtain ⟨cap', rfl⟩ := hv0'
  have hv1' : v1 = .func (.func 224) #[] #[] := by
   cases e1 with
   | fn _ _ vs hs _ =>
    have : vs = #[] := Array.eq_empty_of_size_eq_zero (by simpa using hs)
    rw [this]
  subst hv1'
  have hsz : (Array.ofFn fun i : Fin S.length => i).size = S.length := by simp
  have hbl : b < w.heap.size := (Array.getElem?_eq_some_iff.1 r5).1
  have hfm : g.fm b = none := by
   cases e : g.fm b with
   | none => rfl
   | some es => obtain ⟨clk, h⟩ := hW.fm _ _ e; rw [r5] at h; cases h
  have henc : ∀ x : Fin S.length, VRel g (iLL (S.getD x default)) (c.getD x undef) := fun x => by
   have := r8 x x.2; rw [getD_map S x.2] at this; exact this
  have eg : ∀ args w, (callFunc 224 args).run Tryz.prog w = .ok (.enter 224 args) w := enters_of Tryz.func224 (by kernel_rfl) rfl
  have hH : Holds (fun x : Fin S.length => c.getD x undef) w b 0 (Array.ofFn fun i : Fin S.length => i) := fun j hj => by
   rw [hsz] at hj
   have hjc : j < c.size := by omega
   refine ⟨?_, ?_⟩
   ·simp [World.cell?, r5, hjc, hj]
   ·simp [World.frozen?, r5]
  have hl := AnyQ.slices_SortFunc Tryz.sortP 1 Tryz.isAgg75 Tryz.sizeOf75 (fun x : Fin S.length => [c.getD x undef]) (fun _ => rfl) (fun x v hv => by
   rw [List.mem_singleton] at hv; subst hv; exact sl_one (henc x)) (fun x y => cmpL (S.getD x default) (S.getD y default)) (swo_cmpL S) 224 #[] b 0 cap' (Array.ofFn fun i : Fin S.length => i) w eg
   (cmpL_lays hW (fun i => S.getD i default) b _ (fun o => r4 o (Nat.zero_le _)) hfm (fun x : Fin S.length => x.val) _ henc) (holds_one hH) hbl (by rw [hsz]; exact hbig)
  rw [hsz] at hl
  refine hl.mono ?_
  rintro e w' ⟨rfl, d', m, os, hp2, hs2, rfl⟩
  rw [sortWorldK, putRow_one]
  have hd' : d'.size = S.length := by rw [hp2.1, hsz]
  have hperm : d'.toList.Perm (Array.ofFn fun i : Fin S.length => i).toList := by
   have := hp2.2.2
   rw [Array.extract_eq_self_of_le (by omega), Array.extract_eq_self_of_le (by omega)] at this
   exact this
  have hmap : (Array.ofFn fun i : Fin S.length => i).toList.map (fun i : Fin S.length => S.getD i default) = S := by
   apply List.ext_getElem (by simp)
   intro i h1 h2
   simp [List.getD_eq_getElem?_getD, h2]
  have hSp : (d'.toList.map fun i : Fin S.length => S.getD i default).Perm S := by
   have := hperm.map fun i : Fin S.length => S.getD i default
   rwa [hmap] at this
  have hget : ∀ k (hk : k < d'.size), d'[k]! = d'[k] := fun k hk => getElem!_pos d' k hk
  obtain ⟨q1, q2⟩ := hW.sorted (fun x : Fin S.length => c.getD x undef) d' h0 hp r5 (by rw [hd']; simp) (cs' := (d'.toList.map fun i : Fin S.length => S.getD i default).map iLL) (by simp [hd']) (fun k hk => by
   rw [List.length_map, List.length_map, Array.length_toList] at hk
   rw [hget k hk]
   have : ((d'.toList.map fun i : Fin S.length => S.getD i default).map iLL).getD k nv = iLL (S.getD d'[k] default) := by simp [List.getD_eq_getElem?_getD, hk]
   rw [this]; exact henc _) m os
  exact ⟨_, rfl, g, .tup [], _, .refl g, hk _ _ hSp (o.put _), .tup [] #[] rfl (by simp), q1, q2⟩
end Go.Proofs.Shf
namespace Go.Proofs.Shf
open Go.AW Go.Proofs Go.Shf
theorem rd_one {α : Type} [Inhabited α] {f : α → AV} {H0 H : Heap} {l : List (Nat × MObj)} {K : Kont} {id fr k : Nat} {A : List α} (o : Owns H0 H ((id, .cells 1 (A.map f) fr) :: l)) (hk : k < A.length) (h : K (.agg [f (A.getD k default)]) H) : rd1 (H.get id) (some 1) k K H := by
 refine rd_celln o (by simp; omega) ?_
 have : ((A.map f).drop k).take 1 = [f (A.getD k default)] := by
  rw [List.drop_eq_getElem_cons (by simpa using hk)]
  simp [List.getD_eq_getElem?_getD, hk]
 rw [this]; exact h
theorem app_ag {α : Type} {f : α → AV} {H0 H : Heap} {l : List (Nat × MObj)} {K : Kont} {id n : Nat} {A : List α} (a : α) (o : Owns H0 H ((id, .cells 1 (A.map f) 0) :: l)) (hn : n = A.length) (h2 : (f a).one = true) (hm : A.length + 1 ≤ maxL)
  (hk : ∀ id' H', Owns H0 H' ((id', .cells 1 ((A ++ [a]).map f) 0) :: l) → K (.buf id' (A ++ [a]).length) H') : appW 1 (some (.buf id n)) (some (.sl [.agg [f a]])) K H := by
 subst hn
 have hok : okEls 1 [AV.agg [f a]] := by
  intro e he
  rw [List.mem_singleton] at he; subst he
  exact ⟨rfl, fun c hc => by
   have : c = f a := by simpa [AV.cells] using hc
   subst this; exact h2⟩
 have h0 := o.h0
 simp only at h0
 simp only [appW, h0, srcOf, app2]
 refine ⟨⟨trivial, by simp, by simp; omega, by simp; omega, hok⟩, fun id' hn => ?_⟩
 have hfl : flat [AV.agg [f a]] = [f a] := by simp [flat, AV.cells]
 rw [hfl]
 have := hk id' _ (o.mv hn (.cells 1 ((A ++ [a]).map f) 0))
 simpa using this
def gensF (f : SF) : List (List (List Int)) := (pairsF f).map fun p => genF f (p.getD 0 default) (p.getD 1 default)
def PartsQ (f : SF) (r : AV) : Prop := (∃ L, AllP f L ∧ r = .tup [mL iLL L, .bool true]) ∨ r = .tup [.sl [], .bool false]
theorem allPartsF_ok (B : Nat) (f : SF) (h : f.Is) (most : Nat) (h1 : 1 ≤ most) (h2 : most ≤ 1000) : Rets B 106 [.ptr f.cells, iI most] (PartsQ f) := by
 intro H0
 refine c106p (by simp) fun _ => ?_
 have ho := h.1.is.1.o
 have hsl := h.1.sl
 have hz := h.1.sz
 unfold s106p
 have o : Owns H0 H0 [] := .nil _
 try simp only [go_sem, reduceAdd]
 refine (none_ok B f h.1).go fun _ => ?_
 try simp only [go_sem, reduceAdd]
 refine newBuf_own o fun id6 H o => ?_
 try simp only [go_sem]
 generalize hP : gensF f = P
 have hPm : ∀ g, g ∈ P → f.Part g := fun g hg => by
  rw [← hP, gensF, List.mem_map] at hg
  obtain ⟨p, hp, rfl⟩ := hg
  obtain ⟨x, e, hx, he, rfl⟩ := mem_pairsN.mp hp
  have := hz _ (mem_getD.mpr ⟨x, hx, rfl⟩)
  exact genF_part h (x := x) (e := e) (by rw [ix_nat]; omega)
 have hPl : P.length = (pairsF f).length := by rw [← hP, gensF, List.length_map]
 have hpl : (pairsF f).length ≤ 128 := Nat.le_trans (pairsN_len hz (Nat.le_refl _)) (by omega)
 refine awp_while [0, 1] (fun (g : Nat × List (List (List Int)) × Nat) => [(6, some (.buf g.1 g.2.1.length)), (7, some (.int .i64 (g.2.2 : Int)))])
  (fun m g H => m = most - g.2.2 ∧ g.2.2 ≤ g.2.1.length ∧ g.2.1.length ≤ most ∧ WorkF (joinF f) f.Part (noneF f) P g.2.1 g.2.2 0 ∧ Owns H0 H [(g.1, .cells 1 (g.2.1.map iLL) 0)]) most (id6, [noneF f], 0)
  ⟨rfl, by simp, by simpa using h1, ⟨by simp, by simp, fun t ht => by
   rw [List.mem_singleton] at ht; subst ht
   exact noneF_part h.1, by simp, by simp⟩, o⟩ rfl ?_
 clear o
 rintro m ⟨id6, S, k⟩ H ⟨rfl, hkl, hSm, hW, o⟩
 replace hkl : k ≤ S.length := hkl
 replace hSm : S.length ≤ most := hSm
 replace hW : WorkF (joinF f) f.Part (noneF f) P S k 0 := hW
 replace o : Owns H0 H [(id6, .cells 1 (S.map iLL) 0)] := o
 try simp only [go_sem]
 refine ⟨fun g1 => At.mk ?_, fun g1 => At.mk ?_⟩
 ·have g1p := of_decide g1
  have w := wsucc (k := k) (by omega)
  try simp only [go_sem]
  refine (pairs_ok B f (by omega) hz).go fun _ => ?_
  try simp only [go_sem]
  refine awp_for [0, 1, 7, 21, 22] (G := Nat × List (List (List Int))) (fun j g => [(6, some (.buf g.1 g.2.length)), (23, some (.int .i64 (j : Int)))])
   (fun j g H => k < g.2.length ∧ g.2.length ≤ most ∧ WorkF (joinF f) f.Part (noneF f) P g.2 k j ∧ Owns H0 H [(g.1, .cells 1 (g.2.map iLL) 0)]) (pairsF f).length (id6, S) ⟨g1p, hSm, hW, o⟩ rfl ?_
  clear o hkl hSm hW g1 g1p
  rintro j ⟨id6, S⟩ H hj ⟨hkl, hSm, hW, o⟩
  replace hkl : k < S.length := hkl
  replace hSm : S.length ≤ most := hSm
  replace hW : WorkF (joinF f) f.Part (noneF f) P S k j := hW
  replace o : Owns H0 H [(id6, .cells 1 (S.map iLL) 0)] := o
  try simp only [go_sem]
  refine ⟨fun g2 => At.mk ?_, fun g2 => At.mk ?_⟩
  ·have g2p := of_decide g2
   have w2 := wsucc (k := j) (by omega)
   try simp only [go_sem]
   refine ⟨g2p, ?_⟩
   obtain ⟨x, e, hx, he, hpe⟩ := mem_pairsN.mp (mem_getD.mpr ⟨j, g2p, rfl⟩)
   have hpe : (pairsF f).getD j default = pairsE x e := hpe
   have hxe := hz _ (mem_getD.mpr ⟨x, hx, rfl⟩)
   have he2 : (e : Int) < f.sizes.getD x default := by omega
   have hPj : P.getD j default = genF f x e := by
    rw [← hP, gensF]
    exact (map_getD _ g2p).trans (by rw [hpe]; rfl)
   rw [hpe]
   refine ⟨hkl, rd_one o hkl ?_⟩
   generalize ht : S.getD k default = t at *
   have htm : t ∈ S := by rw [← ht]; exact mem_getD.mpr ⟨k, hkl, rfl⟩
   have hts := hW.sv t htm
   have hgp : f.Part (genF f x e) := by rw [← hPj]; exact hPm _ (mem_getD.mpr ⟨j, by omega, rfl⟩)
   try simp only [go_sem, reduceAdd]
   refine ⟨_, (generated_ok B f h.1 x hx e he2).run, ?_⟩
   refine ⟨_, (join_ok B f h.1 t (genF f x e) hts.len hgp.len).run, ?_⟩
   have hss := joinF_part h.1 hts hgp
   have hstep : joinF f (S.getD k default) (P.getD j default) = joinF f t (genF f x e) := by rw [ht, hPj]
   generalize joinF f t (genF f x e) = q at *
   refine newRef_own o fun id10 H o => ?_
   try simp only [go_sem]
   refine stc o fun H o => ?_
   simp only [wr_cons, wr_nil, List.set_cons_zero, List.set_cons_succ] at o
   try simp only [go_sem]
   refine wk_ref 10 o rfl fun H o => wkW_done ?_
   try simp only [go_sem]
   refine CallH.lentPure (es := [mL iLL S, .fn (.func 221) [.ptr [iLL q]]]) (.bool _) rfl (fun i hi => ?_) (containsPart_ok B S q).run ?_
   ·obtain rfl | rfl : i = 0 ∨ i = 1 := by simp only [List.length_cons, List.length_nil] at hi; omega
    ·exact lent_arg o rfl
    ·exact val_arg _
   by_cases hin : q ∈ S
   ·rw [dec_t hin]
    try simp only [go_sem, w2]
    refine for_next (id6, S) g2p ⟨hkl, hSm, ⟨hW.z, hW.nd, hW.sv, hW.dn, fun i hi hiL => ?_⟩, o⟩ rfl
    by_cases e : i = j
    ·subst e; rw [hstep]; exact hin
    ·exact hW.pt i (by omega) hiL
   ·rw [dec_f hin]
    try simp only [go_sem]
    refine ⟨fun g3 => At.mk ?_, fun g3 => At.mk ?_⟩
    ·try simp only [go_sem]
     exact rets_ret (.inr rfl) o.sub
    ·have g3p := of_ndecide g3
     try simp only [go_sem, reduceAdd]
     refine app_ag q o rfl rfl (by simp only [maxL]; omega) fun id6 H o => ?_
     try simp only [go_sem, w2]
     have hl : (S ++ [q]).length = S.length + 1 := by simp
     have hgd : ∀ i, i < S.length → (S ++ [q]).getD i default = S.getD i default := fun i hi => by
      simp [List.getD_eq_getElem?_getD, List.getElem?_append_left hi]
     refine for_next (id6, S ++ [q]) g2p ⟨by rw [hl]; omega, by rw [hl]; omega, ⟨List.mem_append_left _ hW.z, ?_, ?_, ?_, ?_⟩, o⟩ rfl
     ·rw [List.nodup_append]
      refine ⟨hW.nd, by simp, fun a ha b hb => ?_⟩
      rw [List.mem_singleton] at hb
      rintro rfl; rw [hb] at ha; exact hin ha
     ·intro u hu
      rw [List.mem_append, List.mem_singleton] at hu
      rcases hu with hu | rfl
      ·exact hW.sv u hu
      ·exact hss
     ·intro i hi g hg
      rw [hgd i (by omega)]
      exact List.mem_append_left _ (hW.dn i hi g hg)
     ·intro i hi hiL
      rw [hgd k hkl]
      by_cases e : i = j
      ·subst e; rw [hstep]; simp
      ·exact List.mem_append_left _ (hW.pt i (by omega) hiL)
  ·have g2p := of_ndecide g2
   obtain rfl : j = (pairsF f).length := by omega
   try simp only [go_sem]
   refine ⟨most - (k + 1), _, H, by omega, ⟨(id6, S, k + 1), ⟨rfl, by simp only; omega, hSm, ⟨hW.z, hW.nd, hW.sv, fun i hi g hg => ?_, by simp⟩, o⟩, rfl⟩, by rw [w]; exact .refl _ _⟩
   replace hi : i < k + 1 := hi
   by_cases e : i = k
   ·subst e
    obtain ⟨n, hn, rfl⟩ := mem_getD.mp hg
    exact hW.pt n (by omega) hn
   ·exact hW.dn i (by omega) g hg
 ·have g1p := of_ndecide g1
  obtain rfl : k = S.length := by omega
  try simp only [go_sem]
  refine sortPart_own B S (List.length_pos_of_mem hW.z) (by omega) o fun H S' hp o => ?_
  try simp only [go_sem]
  refine fz_own o hp.length_eq.symm fun H o => ?_
  try simp only [go_sem]
  refine rets_ret (.inl ⟨S', ⟨hp.nodup_iff.mpr hW.nd, fun p => ?_⟩, rfl⟩) o.sub
  rw [hp.mem_iff]
  refine ⟨hW.sv p, all_parts h hW.z hW.sv (fun t ht x hx e he => ?_) p⟩
  obtain ⟨i, hi, rfl⟩ := mem_getD.mp ht
  refine hW.dn i hi _ ?_
  rw [← hP, gensF, List.mem_map]
  exact ⟨pairsE x e.toNat, mem_pairsN.mpr ⟨x, e.toNat, hx, by omega, rfl⟩, by simp [pairsE, Int.toNat_of_nonneg he.1]⟩
end Go.Proofs.Shf
namespace Go.Proofs.Shf
open Go.AW Go.Proofs Go.Shf
end Go.Proofs.Shf
namespace Go.Proofs.Shf
open Go.AW Go.Proofs Go.Shf
def AllQ3 (f : SF) (r : AV) : Prop := ∃ (L : List (List (List Int))) (k : Int), r = .tup [mL iLL L, iI k] ∧ (k = 0 ∨ k = 3) ∧ (k = 0 → AllP f L)
theorem allPartsH_ok (B : Nat) (f : SF) (hI : f.Is) : Rets B 38 [.agg f.cells] (AllQ3 f) := by
 intro H0
 refine c38p (by simp) fun _ => ?_
 unfold s38p
 try simp only [go_sem, reduceAdd]
 refine (isSetFunctor_ok B f).go fun _ => ?_
 try simp only [go_sem]
 rw [dec_t hI]
 try simp only [go_sem]
 have ho := hI.1.is.1.o
 have hsl := hI.1.sl
 obtain ⟨n, hn⟩ := elements_ok B f (by omega) hI.1.sz
 refine hn.go fun _ => ?_
 try simp only [go_sem]
 refine ⟨fun h1 => At.mk ?_, fun h1 => At.mk ?_⟩
 ·try simp only [go_sem]
  exact rets_ret ⟨[], 3, rfl, .inr rfl, fun h => by simp at h⟩ (.refl _)
 ·try simp only [go_sem]
  refine (allPartsF_ok B f hI 200 (by omega) (by omega)).go fun r _ hr => ?_
  rcases hr with ⟨L, hL, rfl⟩ | rfl
  ·try simp only [go_sem, reduceAdd, reduceLT]
   exact rets_ret ⟨L, 0, rfl, .inl rfl, fun _ => hL⟩ (.refl _)
  ·try simp only [go_sem, reduceAdd, reduceLT]
   exact rets_ret ⟨[], 3, rfl, .inr rfl, fun h => by simp at h⟩ (.refl _)
open Classical in
theorem fnClassifier_ok (B : Nat) (hlib : LibSorts) (code : List UInt8) : Pur Tryz.prog B 8 [mL Go.AW.iB code] (.bool true) := by
 refine ⟨fun H0 => c8p (by simp) fun _ => ?_⟩
 unfold s8p
 have o : Owns H0 H0 [] := .nil _
 try simp only [go_sem, reduceAdd]
 refine (big_ok B code).go fun _ => ?_
 try simp only [go_sem]
 refine ⟨fun g0 => At.mk ?_, fun g0 => At.mk ?_⟩
 ·try simp only [go_sem]
  exact pure_ret rfl (.refl _)
 try simp only [go_sem]
 refine (drawChar_ok B code).go fun r _ ⟨f, p, e⟩ => ?_
 subst e
 try simp only [go_sem, reduceAdd, reduceLT]
 refine ⟨by simp [maxL], newRef_own o fun id3 H o => ?_⟩
 try simp only [go_sem, reduceAdd]
 refine newRef_own o fun id4 H o => ?_
 try simp only [go_sem]
 refine stc o.swap fun H o => ?_
 simp only [wr_cons, wr_nil, List.set_cons_zero, List.set_cons_succ] at o
 try simp only [go_sem]
 refine stc o.swap fun H o => ?_
 simp only [wr_cons, wr_nil, List.set_cons_zero, List.set_cons_succ] at o
 try simp only [go_sem]
 refine wk_ref 4 o rfl fun H o => wk_ref 3 o rfl fun H o => wkW_done ?_
 try simp only [go_sem, reduceAdd]
 refine (charI_ok B hlib f p).go fun _ => ?_
 try simp only [go_sem, reduceAdd, reduceLT]
 refine ⟨by simp [maxL], newRef_own o fun id5 H o => ?_⟩
 try simp only [go_sem]
 refine stc o fun H o => ?_
 simp only [wr_cons, wr_nil, List.set_cons_zero, List.set_cons_succ] at o
 try simp only [go_sem, reduceAdd]
 refine (charS_ok B f p).go fun _ => ?_
 try simp only [go_sem, reduceAdd, reduceLT]
 refine ⟨by simp [maxL], newRef_own o fun id7 H o => ?_⟩
 try simp only [go_sem]
 refine stc o fun H o => ?_
 simp only [wr_cons, wr_nil, List.set_cons_zero, List.set_cons_succ] at o
 try simp only [go_sem]
 refine wk_ref 7 o rfl fun H o => wk_ref 5 o rfl fun H o => wkW_done ?_
 try simp only [go_sem, reduceAdd, dTrue]
 refine (sameMap9_ok B (chR f p) (chR f p)).go fun _ => ?_
 rw [dec_t rfl]
 try simp only [go_sem, dTrue]
 by_cases hC : chC f p = 0
 rotate_left 1
 ·rw [decide_eq_false hC]
  try simp only [go_sem, dTrue]
  exact pure_ret rfl o.sub
 have hfp : f.Is ∧ f.Part p := by
  by_cases h : f.Is ∧ f.Part p
  ·exact h
  ·rw [chC, if_neg h] at hC; simp at hC
 have hfew : AllFew f.shape := by
  by_cases h : AllFew f.shape
  ·exact h
  ·rw [chC, if_pos hfp, if_neg h] at hC; simp at hC
 have hR : chR f p = chiM f p := by rw [chR, if_pos hC]
 rw [hR, hC, chiM]
 obtain ⟨hf, hp⟩ := hfp
 have t := tabOk hf.1.is hfew
 have hom := om_is t
 have hM := mapL_is hf hom rfl (chi_map t hf hp)
 try simp only [go_sem, reduceAdd, dTrue]
 refine (partOfMap_ok B hlib _ hM hfew rfl).go fun _ => ?_
 rw [tp_chi t hf hp]
 try simp only [go_sem, reduceAdd, reduceLT]
 refine newRef_own o fun id9 H o => ?_
 try simp only [go_sem]
 refine stc o fun H o => ?_
 simp only [wr_cons, wr_nil, List.set_cons_zero, List.set_cons_succ] at o
 try simp only [go_sem]
 refine wk_ref 9 o rfl fun H o => wkW_done ?_
 try simp only [go_sem, reduceAdd, reduceLeDiff]
 refine (classifierI_ok B hlib f.shape hf.1.is hfew).go fun _ => ?_
 try simp only [go_sem, reduceAdd, reduceLT]
 refine ⟨by simp [maxL], newRef_own o fun id11 H o => ?_⟩
 try simp only [go_sem]
 refine stc o fun H o => ?_
 simp only [wr_cons, wr_nil, List.set_cons_zero, List.set_cons_succ] at o
 try simp only [go_sem]
 refine wk_ref 11 o rfl fun H o => wkW_done ?_
 have w00 : IntKind.i64.wrap (0 + 0) = 0 := by decide
 try simp only [go_sem, reduceAdd, reduceLeDiff, w00, dTrue]
 refine (same29_ok B p p).go fun _ => ?_
 rw [dec_t rfl]
 try simp only [go_sem, reduceAdd, reduceLeDiff]
 refine (sameSets9_ok B (omF f.shape (listsOf f.shape)) (omF f.shape (listsOf f.shape))).go fun _ => ?_
 rw [dec_t rfl]
 try simp only [go_sem, reduceAdd]
 refine (isSetMap_ok B ⟨f, omF f.shape (listsOf f.shape), chi f (listsOf f.shape) p⟩).go fun _ => ?_
 rw [dec_t hM]
 try simp only [go_sem, reduceAdd]
 refine (allPartsH_ok B f hf).go fun r _ ⟨PL, k1, e, hk1, hPL⟩ => ?_
 subst e
 try simp only [go_sem, reduceAdd, reduceLT]
 refine (allSetMapsI_ok B hf hom rfl).go fun r _ ⟨ML, k2, e, hk2, hML⟩ => ?_
 subst e
 try simp only [go_sem, reduceAdd, reduceLT]
 have d30 : decide ((3 : Int) = 0) = false := rfl
 have d03 : decide ((0 : Int) = 3) = false := rfl
 rcases hk1 with rfl | rfl
 rotate_left 1
 ·rcases hk2 with rfl | rfl
  ·try simp only [go_sem, dTrue, d30, d03]
   exact pure_ret rfl o.sub
  ·try simp only [go_sem, dTrue, d30, d03]
   exact pure_ret rfl o.sub
 rcases hk2 with rfl | rfl
 rotate_left 1
 ·try simp only [go_sem, dTrue, d30, d03]
  exact pure_ret rfl o.sub
 replace hPL := hPL rfl
 replace hML := hML rfl
 have hmem : ∀ m, m ∈ ML ↔ MapL f (omF f.shape (listsOf f.shape)) m := fun m => (hML.mem m).trans (blank_ext hf.1)
 have hlen := parts_maps t hf hPL hML.nodup hmem
 have hne : 0 < ML.length := List.length_pos_of_mem ((hmem _).mpr (chi_map t hf hp))
 try simp only [go_sem, dTrue]
 rw [hlen]
 try simp only [go_sem, dTrue]
 refine (roll_ok B code 8 _).mono' fun r H _ ⟨id, s2, e, hs2, o2⟩ => ?_
 subst e
 have o : Owns H0 H [(id, s2.obj)] := o.trans o2
 try simp only [go_sem]
 rw [decide_eq_false (show ¬ ((ML.length : Int) = 0) by omega)]
 try simp only [go_sem, reduceAdd]
 refine ⟨?_, ?_⟩
 focus
  refine (below_ok B ML.length).go hs2 o fun r s3 H _ ⟨k, e, hk0, hk1, _⟩ hs o => ?_
  subst e
  have hk : 0 ≤ k ∧ k.toNat < ML.length := ⟨hk0, by have := hk1 (by omega); omega⟩
  try simp only [go_sem, reduceAdd, reduceLeDiff]
  refine ⟨hk, by simp [maxL], newRef_own o fun id18 H o => ?_⟩
  try simp only [go_sem]
  refine stc o fun H o => ?_
 rotate_left 1
 focus
  refine ⟨by simp [maxL], newRef_own o fun id18 H o => ?_⟩
  try simp only [go_sem]
  refine (below_ok B ML.length).go hs2 o.swap fun r s3 H _ ⟨k, e, hk0, hk1, _⟩ hs o => ?_
  subst e
  have hk : 0 ≤ k ∧ k.toNat < ML.length := ⟨hk0, by have := hk1 (by omega); omega⟩
  try simp only [go_sem, reduceAdd, reduceLeDiff]
  refine ⟨hk, ?_⟩
  refine stc o.swap fun H o => ?_
 all_goals
  have hm2 := (hmem _).mp (ix_mem hk.2)
  have hM2 := mapL_is hf hom rfl hm2
  simp only [wr_cons, wr_nil, List.set_cons_zero, List.set_cons_succ] at o
  try simp only [go_sem]
  refine wk_ref 18 o rfl fun H o => wkW_done ?_
  try simp only [go_sem, reduceAdd]
  refine (partOfMap_ok B hlib _ hM2 hfew rfl).go fun _ => ?_
  try simp only [go_sem, reduceAdd, reduceLT]
  refine newRef_own o fun id19 H o => ?_
  try simp only [go_sem]
  refine stc o fun H o => ?_
  simp only [wr_cons, wr_nil, List.set_cons_zero, List.set_cons_succ] at o
  try simp only [go_sem]
  refine wk_ref 19 o rfl fun H o => wkW_done ?_
  try simp only [go_sem, reduceAdd]
  refine (charI_ok B hlib f (tpF f (listsOf f.shape) (ix ML k))).go fun _ => ?_
  have hC2 : chC f (tpF f (listsOf f.shape) (ix ML k)) = 0 := by rw [chC, if_pos ⟨hf, tp_part t hf hm2⟩, if_pos hfew]
  rw [chR, if_pos hC2, hC2, chiM, chi_tp t hf hm2]
  try simp only [go_sem, reduceAdd, reduceLT]
  refine ⟨by simp [maxL], newRef_own o fun id21 H o => ?_⟩
  try simp only [go_sem]
  refine stc o fun H o => ?_
  simp only [wr_cons, wr_nil, List.set_cons_zero, List.set_cons_succ] at o
  try simp only [go_sem]
  refine wk_ref 21 o rfl fun H o => wkW_done ?_
  try simp only [go_sem, reduceAdd, w00, dTrue]
  refine (sameMap9_ok B ⟨f, omF f.shape (listsOf f.shape), ix ML k⟩ ⟨f, omF f.shape (listsOf f.shape), ix ML k⟩).go fun _ => ?_
  rw [dec_t rfl]
  try simp only [go_sem]
  exact pure_ret rfl o.sub
end Go.Proofs.Shf
namespace Go.Proofs.Shf
open Go.AW Go.Proofs Go.Shf
end Go.Proofs.Shf
namespace Go.AW
def WN (P : AV → Prop) (a : AV) : Prop := (∃ al : List AV, a = .sl al ∧ ∀ x, x ∈ al → P x) ∨ ∃ n, 1048576 < n ∧ n ≤ 140737488355328 ∧ a = .big n
def WB (a : AV) : Prop := (∃ l : List UInt8, a = mL iB l) ∨ ∃ n, 1048576 < n ∧ n ≤ 140737488355328 ∧ a = .big n
end Go.AW
namespace Go.Proofs.Shf
open Go.AW Go.Proofs Go.Shf
open Go.Deep
def gh0 (W : World) : Gh := ⟨fun b o => W.cell? ⟨b, o, none⟩, fun _ => none, fun _ => none⟩
theorem wrel0 (W : World) : WRel (gh0 W) W.heap.size [] W where
 fz b o v h := h
 fm b es h := by cases h
 ob i o h := by simp [Heap.get] at h
 inj i j b c c' n h := by simp [Heap.get] at h
 injm i j b n h := by simp [Heap.get] at h
 base := Nat.le_refl _
 fin := ⟨0, fun i _ => rfl⟩
section
variable {H : Type} {enc : TypeId × Value → H} {W : World}
def RdV (enc : TypeId × Value → H) (W : World) (t : TypeId) (Q : AV → Prop) : Prop :=
 ∀ fuel v d ps, DataW.trod enc Tryz.prog W 0 (fun _ => true) true fuel t [v] = some (d, ps) → (∀ n, n ∈ d.weights Tryz.prog t → n ≤ reachBytes) → ∃ a, Q a ∧ VRel (gh0 W) a v
theorem rd_byte : RdV enc W 5 fun a => ∃ b : UInt8, a = Go.AW.iB b := by
 intro fuel v d ps h _
 cases fuel with
 | zero => simp [DataW.trod] at h
 | succ fuel =>
  cases v <;> simp only [DataW.trod, Tryz.underlying5] at h <;> try (cases h; done)
  rename_i k n
  split at h
  ·rename_i hk
   obtain ⟨rfl, hf⟩ := hk
   have hr : 0 ≤ n ∧ n ≤ 255 := by
    simp only [Lit.wf, Bool.and_eq_true, decide_eq_true_eq] at hf
    exact ⟨hf.1, hf.2⟩
   refine ⟨_, ⟨UInt8.ofNat n.toNat, rfl⟩, ?_⟩
   have e : Go.AW.iB (UInt8.ofNat n.toNat) = .int .u8 n := by
    have h1 : (UInt8.ofNat n.toNat).toNat = n.toNat := by rw [UInt8.toNat_ofNat']; omega
    rw [Go.AW.iB, h1, Int.toNat_of_nonneg hr.1]
   rw [e]
   exact .int _ n
  ·cases h
theorem weightsAll_mem {P : Program} {e : TypeId} {l : List (DataW H)} {x : DataW H} (hx : x ∈ l) {n : Nat} (hn : n ∈ x.weights P e) : n ∈ DataW.weightsAll P e l := by
 induction l with
 | nil => simp at hx
 | cons y r ih =>
  simp only [DataW.weightsAll, List.mem_append]
  rcases List.mem_cons.mp hx with rfl | hx
  ·exact .inl hn
  ·exact .inr (ih hx)
theorem rd_slice {t e : TypeId} {Q : AV → Prop} (ht : Tryz.prog.underlying t = some (.slice e)) (hc : Tryz.prog.cellsOf e = 1) (hb : 1 ≤ Tryz.prog.bytesOf e) (hQ : ∀ a, Q a → a.cells = [a]) (h : RdV enc W e Q) : RdV enc W t (WN Q) := by
 intro fuel v d ps htr hw
 rcases open_slice1 ht hc htr with ⟨hv, hx⟩ | ⟨a, len, cap, m, n, V, D, Pl, hv, _, hl, hm, hmm, hx, hel⟩
 ·injection hv with hv
  subst hv
  exact ⟨.sl [], .inl ⟨[], rfl, by simp⟩, .slnil none 0⟩
 ·injection hv with hv
  subst hv
  simp only [if_true] at hmm
  subst hmm
  simp only [Prod.mk.injEq] at hx
  obtain ⟨rfl, rfl⟩ := hx
  have hw0 : (((List.range len).map D).length + ((List.range (m - len)).map fun j => D (len + j)).length) * Tryz.prog.bytesOf e ≤ reachBytes := hw _ (by simp [DataW.weights, ht])
  have hlen : len ≤ 140737488355328 := by
   simp only [List.length_map, List.length_range] at hw0
   have h1 : len * 1 ≤ (len + (m - len)) * Tryz.prog.bytesOf e := Nat.mul_le_mul (by omega) hb
   have h2 : reachBytes ≤ 140737488355328 := by decide
   omega
  by_cases hbig : 1099511627776 < len
  ·exact ⟨.big len, .inr ⟨len, by omega, hlen, rfl⟩, .big _ _ _ hlen⟩
  ·have hall : ∀ i, ∃ x, i < len → Q x ∧ VRel (gh0 W) x (V i) := by
    intro i
    by_cases hi : i < len
    ·obtain ⟨x, q1, q2⟩ := h n (V i) (D i) (Pl i) (hel i (by omega)).2 fun k hk => hw k (by
      simp only [DataW.weights, ht, List.mem_cons, List.mem_append]
      exact .inr (.inl (weightsAll_mem (List.mem_map.mpr ⟨i, List.mem_range.mpr hi, rfl⟩) hk)))
     exact ⟨x, fun _ => ⟨q1, q2⟩⟩
    ·exact ⟨.nilp, fun h => absurd h hi⟩
   obtain ⟨A, hA⟩ := Classical.axiomOfChoice hall
   have hget : ∀ i, i < len → ((List.range len).map A).getD i nv = A i := fun i hi => getD_map_range A nv hi
   refine ⟨.sl ((List.range len).map A), .inl ⟨_, rfl, fun x hx => ?_⟩, ?_⟩
   ·obtain ⟨i, hi, rfl⟩ := List.mem_map.mp hx
    exact (hA i (List.mem_range.mp hi)).1
   ·by_cases h0 : len = 0
    ·subst h0; exact .slnil _ _
    ·have hsp : a = ⟨a.block, a.off, none⟩ := by
      have := (hel 0 (by omega)).1
      obtain ⟨b, o, s⟩ := a
      cases s with
      | none => rfl
      | some s => exfalso; simp [Addr.add, World.cell?] at this; split at this <;> simp at this
     have hadd : ∀ i, a.add i = ⟨a.block, a.off + i, none⟩ := by
      intro i
      rw [hsp]
      unfold Addr.add
      split
      ·rename_i e; simp [e]
      ·rfl
     have key : VRel (gh0 W) (.sl ((List.range len).map A)) (.slice (some ⟨a.block, a.off, none⟩) ((List.range len).map A).length m) := by
      refine .sl _ a.block a.off 1 m V (by simp [maxL]; omega) (by simp; omega) (fun i hi => ?_) (fun i j hi hj => ?_) (fun i j hi hj => ?_)
      ·rw [hget i (by simpa using hi), hQ _ (hA i (by simpa using hi)).1]; rfl
      ·have hi' : i < len := by simpa using hi
       have := (hel i (by omega)).1
       rw [hadd] at this
       have e : i * 1 + j = i := by omega
       rw [e]; exact this
      ·have hi' : i < len := by simpa using hi
       have e : i * 1 + j = i := by omega
       obtain rfl : j = 0 := by omega
       rw [e, hget i hi', hQ _ (hA i hi').1]
       exact (hA i hi').2
     rw [List.length_map, List.length_range, ← hsp] at key
     exact key
theorem WB.of {a : AV} (h : WN (fun a => ∃ b : UInt8, a = Go.AW.iB b) a) : WB a := by
 rcases h with ⟨l, rfl, hl⟩ | h
 ·refine .inl ⟨l.map fun x => match x with | .int _ n => UInt8.ofNat n.toNat | _ => 0, ?_⟩
  rw [mL, List.map_map]
  congr 1
  have : ∀ x, x ∈ l → (Go.AW.iB ∘ fun x : AV => match x with | .int _ n => UInt8.ofNat n.toNat | _ => 0) x = x := fun x hx => by
   obtain ⟨n, rfl⟩ := hl x hx
   simp [Go.AW.iB]
  exact ((List.map_congr_left this).trans (by simp)).symm
 ·exact .inr h
theorem rd_bytes : ∀ fuel v d ps, DataW.trod enc Tryz.prog W 0 (fun _ => true) true fuel 22 [v] = some (d, ps) → (∀ n, n ∈ d.weights Tryz.prog 22 → n ≤ reachBytes) → ∃ a, WB a ∧ VRel (gh0 W) a v := fun fuel v d ps k w => by
 obtain ⟨a, q1, q2⟩ := rd_slice Tryz.underlying22 (by kernel_rfl) (of_decide_eq_true (by kernel_rfl)) (fun a ⟨n, e⟩ => by rw [e]; rfl) rd_byte fuel v d ps k w
 exact ⟨a, WB.of q1, q2⟩
end
theorem big_big (B n : Nat) (hn : 1048576 < n) : Pur Tryz.prog B 10 [.big n] (.bool true) := by
 refine ⟨fun H0 => c10 (by simp) fun hf => ?_⟩
 unfold s10
 try simp only [go_sem, reduceAdd]
 exact pure_ret (by congr 1; simp; omega) (.refl _)
end Go.Proofs.Shf
namespace Go.Proofs.Shf
open Go.AW Go.Proofs Go.Shf
theorem fnClassifier_all (B : Nat) (a : AV) (h : WB a) : Pur Tryz.prog B 8 [a] (.bool true) := by
 rcases h with ⟨l, rfl⟩ | ⟨n, hn, _, rfl⟩
 ·exact fnClassifier_ok B libSorts l
 ·refine ⟨fun H0 => c8p (by simp) fun _ => ?_⟩
  unfold s8p
  try simp only [go_sem, reduceAdd]
  refine (big_big B n hn).go fun _ => ?_
  try simp only [go_sem]
  exact pure_ret rfl (.refl _)
end Go.Proofs.Shf
