/- A part of a proof. -/
import Derived.Test.YtadpkiiglobmpaaGreatF13
import Derived.Deep.Slices
import Derived.SizedLaws
set_option linter.unusedVariables false
set_option linter.unusedSimpArgs false
set_option linter.unusedSectionVars false
open Nat (reduceEqDiff reduceAdd reduceMul reduceLeDiff reduceLT)
namespace Go.Proofs.Shf
open Go.AW Go.Proofs Go.Shf
end Go.Proofs.Shf
namespace Go.Proofs.Shf
open Go.AW Go.Proofs Go.Shf
end Go.Proofs.Shf
namespace Go.Proofs.Shf
open Go.AW Go.Proofs Go.Shf
noncomputable def sumK (f : SF) (q : QS) (k : Nat) : Nat := (((rowsQ f q).take k).map fun r => (supQ f q r).length).sum
theorem sumK_succ (f : SF) (q : QS) {k : Nat} (hk : k < (rowsQ f q).length) : sumK f q (k + 1) = sumK f q k + (supQ f q ((rowsQ f q).getD k default)).length := by
 rw [sumK, take_one _ hk, List.map_append, List.sum_append]; simp [sumK]
theorem sumK_full {f : SF} {q : QS} (hf : f.Is) (hq : q.Ok f.shape) : sumK f q (rowsQ f q).length = (solQ f q).length := by
 rw [sumK, List.take_length]; exact sup_sum hf hq
theorem sumK_le {f : SF} {q : QS} (hf : f.Is) (hq : q.Ok f.shape) (k : Nat) : sumK f q k ≤ (solQ f q).length := by
 rw [← sup_sum hf hq, sumK]
 conv => rhs; rw [← List.take_append_drop k (rowsQ f q)]
 rw [List.map_append, List.sum_append]
 omega
theorem rowsQ_len {f : SF} {q : QS} (hf : f.Is) (hq : q.Ok f.shape) : (rowsQ f q).length ≤ 65536 := by
 have h := (sm_szO hf hq).take (szO f q).length
 rw [List.take_length] at h
 have h2 : (rowsQ f q).length ≤ (prodT (szO f q)).toNat := by
  rw [rows_marks hf hq, List.length_map]
  exact Nat.le_trans (List.length_filter_le _ _) (by simp)
 omega
def imgR (q : QS) (m : List (List Int)) (r : List Int) : List Int := (List.range q.o.length).map fun k : Nat => ix (ix m (ix q.v (q.o.getD k default))) (r.getD k default)
theorem fnRows_ok (B : Nat) (code : List UInt8) : Pur Tryz.prog B 6 [mL Go.AW.iB code] (.bool true) := by
 refine ⟨fun H0 => c6p (by simp) fun _ => ?_⟩
 unfold s6p
 have o : Owns H0 H0 [] := .nil _
 have d30 : decide ((3 : Int) = 0) = false := rfl
 have d03 : decide ((0 : Int) = 3) = false := rfl
 try simp only [go_sem, reduceAdd]
 refine (big_ok B code).go fun _ => ?_
 try simp only [go_sem]
 refine ⟨fun g0 => At.mk ?_, fun g0 => At.mk ?_⟩
 ·try simp only [go_sem]
  exact pure_ret rfl (.refl _)
 try simp only [go_sem]
 refine (drawRun_ok B code).go fun r _ ⟨f, q, e⟩ => ?_
 subst e
 try simp only [go_sem, reduceAdd, reduceLT]
 refine ⟨by simp [maxL], newRef_own o fun id3 H o => ?_⟩
 try simp only [go_sem, reduceAdd]
 refine newRef_own o fun id4 H o => ?_
 try simp only [go_sem]
 refine stc o.swap fun H o => ?_
 simp only [wr_cons, wr_nil, List.set_cons_zero, List.set_cons_succ] at o
 try simp only [go_sem]
 refine stc o.swap fun H o => ?_
 simp only [wr_cons, wr_nil, List.set_cons_zero, List.set_cons_succ] at o
 try simp only [go_sem]
 refine wk_ref 4 o rfl fun H o => wk_ref 3 o rfl fun H o => wkW_done ?_
 try simp only [go_sem, reduceAdd]
 refine (runQuery_ok B f q).go fun _ => ?_
 try simp only [go_sem, reduceAdd, reduceLT]
 refine (specRunQuery_ok B f q).go fun _ => ?_
 try simp only [go_sem, reduceAdd, reduceLT, dTrue]
 refine (same29_ok B (ansR f q) (ansR f q)).go fun _ => ?_
 rw [dec_t rfl]
 try simp only [go_sem, dTrue]
 by_cases hC : codQ f q = 0
 rotate_left 1
 ·rw [decide_eq_false hC]
  have e : ansR f q = [] := by rw [ansR, if_neg hC]
  rw [e]
  try simp only [go_sem, dTrue]
  exact pure_ret rfl o.sub
 obtain ⟨⟨hf, hq⟩, hP⟩ := codQ_0 hC
 have hA : ansQ f q = solQ f q := by rw [ansQ, if_pos hC]
 have hR : ansR f q = rowsQ f q := by rw [ansR, if_pos hC]
 have hsl := ansQ_len f q
 rw [hA] at hsl
 have hrl := rowsQ_len hf hq
 rw [hC, hR]
 try simp only [go_sem, reduceAdd, dTrue]
 refine (allSolutions_ok B f q).go fun _ => ?_
 rw [hC, hA]
 try simp only [go_sem, reduceAdd, reduceLT, dTrue]
 refine awp_for [0, 3, 4, 5, 9, 10] (fun k _ => [(11, some (.int .i64 (sumK f q k : Int))), (12, some (.int .i64 (k : Int)))]) (fun k _ H => Owns H0 H []) (rowsQ f q).length () o rfl ?_
 clear o
 rintro k _ H hk o
 try simp only [go_sem]
 refine ⟨fun h1 => At.mk ?_, fun h1 => At.mk ?_⟩
 ·have h1p : k < (rowsQ f q).length := of_decide h1
  have w1 := wsucc (k := k) (by omega)
  have hpos := sup_pos hf hq (mem_getD.mpr ⟨k, h1p, rfl⟩)
  have hss := sumK_succ f q h1p
  have hsle := sumK_le hf hq (k + 1)
  have w2 : IntKind.i64.wrap ((sumK f q k : Int) + ((supQ f q ((rowsQ f q).getD k default)).length : Int)) = (sumK f q (k + 1) : Int) := by rw [wrap_i64 (by omega) (by omega)]; omega
  have hsa : supA f q ((rowsQ f q).getD k default) = supQ f q ((rowsQ f q).getD k default) := by rw [supA, if_pos hC]
  have hsc : supC f q ((rowsQ f q).getD k default) = 0 := by
   rw [supC, if_pos hC, if_neg]
   intro e; rw [e] at hpos; simp at hpos
  try simp only [go_sem, reduceAdd]
  refine ⟨h1p, ?_⟩
  refine (rowSupport_ok B f q _).go fun _ => ?_
  rw [hsa, hsc]
  try simp only [go_sem, reduceAdd, reduceLT, dTrue]
  rw [decide_eq_false (show ¬ ((supQ f q ((rowsQ f q).getD k default)).length : Int) = 0 by omega)]
  try simp only [go_sem, w2, w1]
  exact for_next () h1p o rfl
 have h1p := of_ndecide h1
 have ek : k = (rowsQ f q).length := by omega
 rw [ek, sumK_full hf hq]
 try simp only [go_sem, reduceAdd, dTrue]
 refine (allSetMapsI_ok B hf hf rfl).go fun r _ ⟨ML, k2, e2, hk2, hML⟩ => ?_
 subst e2
 try simp only [go_sem, reduceAdd, reduceLT]
 rcases hk2 with rfl | rfl
 rotate_left 1
 ·try simp only [go_sem, dTrue, d30, d03]
  exact pure_ret rfl o.sub
 replace hML := hML rfl
 have hmem : ∀ m, m ∈ ML ↔ MapL f f m := fun m => (hML.mem m).trans (blank_ext hf.1)
 have hne : 0 < ML.length := List.length_pos_of_mem ((hmem _).mpr (idM_map hf))
 try simp only [go_sem, dTrue, d30, d03]
 rw [decide_eq_false (show ¬ (ML.length : Int) = 0 by omega)]
 try simp only [go_sem]
 refine (roll_ok B code 15 _).mono' fun r H _ ⟨id, s2, e, hs2, o2⟩ => ?_
 subst e
 have o : Owns H0 H [(id, s2.obj)] := o.trans o2
 try simp only [go_sem]
 refine (below_ok B ML.length).go hs2 o fun r s3 H _ ⟨n, e, hk0, hk1, _⟩ hs o => ?_
 subst e
 have hn : 0 ≤ n ∧ n.toNat < ML.length := ⟨hk0, by have := hk1 (by omega); omega⟩
 try simp only [go_sem]
 refine ⟨hn, ?_⟩
 have hmm : MapL f f (ix ML n) := (hmem _).mp (ix_mem hn.2)
 generalize ix ML n = m at hmm
 replace o : Owns H0 H [] := o.tl
 have ho4 := hq.o4
 refine awp_for [4, 5, 18] (fun i _ => [(19, some (.int .i64 (i : Int)))]) (fun i _ H => Owns H0 H []) (rowsQ f q).length () o rfl ?_
 clear o
 rintro i _ H hi o
 try simp only [go_sem]
 refine ⟨fun h2 => At.mk ?_, fun h2 => At.mk ?_⟩
 ·have h2p : i < (rowsQ f q).length := of_decide h2
  have w2 := wsucc (k := i) (by omega)
  have hri : (rowsQ f q).getD i default ∈ rowsQ f q := mem_getD.mpr ⟨i, h2p, rfl⟩
  have himg : imgR q m ((rowsQ f q).getD i default) ∈ rowsQ f q := row_image hf hf rfl hq hmm hri
  obtain ⟨hrl2, hrb⟩ := row_bound hf hq hri
  have hil : (imgR q m ((rowsQ f q).getD i default)).length = q.o.length := by simp [imgR]
  try simp only [go_sem]
  refine new_list iI o fun id20 H o => ?_
  try simp only [go_sem]
  refine awp_for [4, 5, 18, 19, 21] (G := Nat × List Int) (fun k g => [(20, some (.buf g.1 g.2.length)), (22, some (.int .i64 (k : Int)))])
   (fun k g H => g.2 = (imgR q m ((rowsQ f q).getD i default)).take k ∧ Owns H0 H [(g.1, .cells 1 (g.2.map iI) 0)]) q.o.length (id20, []) ⟨by simp, o⟩ rfl ?_
  clear o
  rintro k ⟨id20, img⟩ H hk ⟨himk, o⟩
  dsimp only at himk o
  try simp only [go_sem, reduceAdd, reduceLeDiff]
  refine ⟨fun h3 => At.mk ?_, fun h3 => At.mk ?_⟩
  ·have h3p : k < q.o.length := of_decide h3
   have w3 := wsucc (k := k) (by omega)
   obtain ⟨hok1, hok2⟩ := hq.oAt (mem_getD.mpr ⟨k, h3p, rfl⟩)
   have hrk := hrb k h3p
   have hrow := (hmm.pl _ hok2).1
   have hml := hmm.len
   try simp only [go_sem, reduceAdd, reduceLeDiff]
   refine ⟨h3p, ?_⟩
   refine ⟨hok1, ?_⟩
   rw [decide_eq_false (show ¬ (m.length : Int) ≤ ix q.v (q.o.getD k default) by omega)]
   try simp only [go_sem]
   refine ⟨h2p, ?_⟩
   refine ⟨by omega, ?_⟩
   refine ⟨⟨hok2.1, by omega⟩, ?_⟩
   rw [decide_eq_false (show ¬ ((ix m (ix q.v (q.o.getD k default))).length : Int) ≤ ((rowsQ f q).getD i default).getD k default by omega)]
   try simp only [go_sem, reduceAdd]
   refine ⟨⟨hok2.1, by omega⟩, ?_⟩
   refine ⟨h2p, ?_⟩
   refine ⟨by omega, ?_⟩
   refine ⟨⟨hrk.1, by omega⟩, ?_⟩
   refine app_own (ix (ix m (ix q.v (q.o.getD k default))) (((rowsQ f q).getD i default).getD k default)) o rfl rfl (by rw [himk, List.length_take]; simp only [maxL]; omega) fun z H o => ?_
   try simp only [go_sem, w3]
   refine for_next (z, img ++ [ix (ix m (ix q.v (q.o.getD k default))) (((rowsQ f q).getD i default).getD k default)]) h3p ⟨?_, o⟩ rfl
   rw [himk, take_one _ (by omega)]
   congr 2
   rw [imgR, getD_map_range _ _ h3p]
  have h3p := of_ndecide h3
  have ek3 : k = q.o.length := by omega
  have himl : img = imgR q m ((rowsQ f q).getD i default) := by rw [himk, ek3, ← hil, List.take_length]
  subst himl
  try simp only [go_sem]
  refine fz_own o rfl fun H o => ?_
  try simp only [go_sem]
  obtain ⟨F, hF0, hFs, hFe⟩ : ∃ F : Nat → Bool, F 0 = false ∧ (∀ k, F (k + 1) = (F k || dec ((rowsQ f q).getD k default = imgR q m ((rowsQ f q).getD i default)))) ∧ F (rowsQ f q).length = true := by
   obtain ⟨j, hj, hg⟩ := mem_getD.mp himg
   exact ⟨flagK false fun k => dec ((rowsQ f q).getD k default = imgR q m ((rowsQ f q).getD i default)), rfl, fun _ => rfl, flagK_mono _ _ hj (dec_t hg)⟩
  refine awp_for [4, 5, 18, 19, 20] (fun k _ => [(21, some (.bool (F k))), (24, some (.int .i64 (k : Int)))])
   (fun k _ H => Owns H0 H []) (rowsQ f q).length () o (by rw [hF0]; rfl) ?_
  clear o
  rintro k _ H hk o
  try simp only [go_sem]
  refine ⟨fun h4 => At.mk ?_, fun h4 => At.mk ?_⟩
  ·have h4p : k < (rowsQ f q).length := of_decide h4
   have w4 := wsucc (k := k) (by omega)
   have hsk := hFs k
   try simp only [go_sem]
   cases hb : F k
   ·rw [hb] at hsk
    try simp only [go_sem]
    refine ⟨h4p, ?_⟩
    refine (likeInts_ok B _ _).go fun _ => ?_
    try simp only [go_sem, w4]
    exact for_next () h4p o (by rw [hsk]; rfl)
   ·rw [hb] at hsk
    try simp only [go_sem, w4]
    exact for_next () h4p o (by rw [hsk]; rfl)
  have h4p := of_ndecide h4
  have ek4 : k = (rowsQ f q).length := by omega
  rw [ek4, hFe]
  try simp only [go_sem, w2]
  exact for_next () h2p o rfl
 ·have h2p := of_ndecide h2
  try simp only [go_sem]
  exact pure_ret rfl o.sub
end Go.Proofs.Shf
namespace Go.Proofs.Shf
open Go.AW Go.Proofs Go.Shf
end Go.Proofs.Shf
namespace Go.AW
def WN (P : AV → Prop) (a : AV) : Prop := (∃ al : List AV, a = .sl al ∧ ∀ x, x ∈ al → P x) ∨ ∃ n, 1048576 < n ∧ n ≤ 140737488355328 ∧ a = .big n
def WB (a : AV) : Prop := (∃ l : List UInt8, a = mL iB l) ∨ ∃ n, 1048576 < n ∧ n ≤ 140737488355328 ∧ a = .big n
end Go.AW
namespace Go.Proofs.Shf
open Go.AW Go.Proofs Go.Shf
open Go.Deep
def gh0 (W : World) : Gh := ⟨fun b o => W.cell? ⟨b, o, none⟩, fun _ => none, fun _ => none⟩
theorem wrel0 (W : World) : WRel (gh0 W) W.heap.size [] W where
 fz b o v h := h
 fm b es h := by cases h
 ob i o h := by simp [Heap.get] at h
 inj i j b c c' n h := by simp [Heap.get] at h
 injm i j b n h := by simp [Heap.get] at h
 base := Nat.le_refl _
 fin := ⟨0, fun i _ => rfl⟩
section
variable {H : Type} {enc : TypeId × Value → H} {W : World}
def RdV (enc : TypeId × Value → H) (W : World) (t : TypeId) (Q : AV → Prop) : Prop :=
 ∀ fuel v d ps, DataW.trod enc Tryz.prog W 0 (fun _ => true) true fuel t [v] = some (d, ps) → (∀ n, n ∈ d.weights Tryz.prog t → n ≤ reachBytes) → ∃ a, Q a ∧ VRel (gh0 W) a v
theorem rd_byte : RdV enc W 5 fun a => ∃ b : UInt8, a = Go.AW.iB b := by
 intro fuel v d ps h _
 cases fuel with
 | zero => simp [DataW.trod] at h
 | succ fuel =>
  cases v <;> simp only [DataW.trod, Tryz.underlying5] at h <;> try (cases h; done)
  rename_i k n
  split at h
  ·rename_i hk
   obtain ⟨rfl, hf⟩ := hk
   have hr : 0 ≤ n ∧ n ≤ 255 := by
    simp only [Lit.wf, Bool.and_eq_true, decide_eq_true_eq] at hf
    exact ⟨hf.1, hf.2⟩
   refine ⟨_, ⟨UInt8.ofNat n.toNat, rfl⟩, ?_⟩
   have e : Go.AW.iB (UInt8.ofNat n.toNat) = .int .u8 n := by
    have h1 : (UInt8.ofNat n.toNat).toNat = n.toNat := by rw [UInt8.toNat_ofNat']; omega
    rw [Go.AW.iB, h1, Int.toNat_of_nonneg hr.1]
   rw [e]
   exact .int _ n
  ·cases h
theorem weightsAll_mem {P : Program} {e : TypeId} {l : List (DataW H)} {x : DataW H} (hx : x ∈ l) {n : Nat} (hn : n ∈ x.weights P e) : n ∈ DataW.weightsAll P e l := by
 induction l with
 | nil => simp at hx
 | cons y r ih =>
  simp only [DataW.weightsAll, List.mem_append]
  rcases List.mem_cons.mp hx with rfl | hx
  ·exact .inl hn
  ·exact .inr (ih hx)
theorem rd_slice {t e : TypeId} {Q : AV → Prop} (ht : Tryz.prog.underlying t = some (.slice e)) (hc : Tryz.prog.cellsOf e = 1) (hb : 1 ≤ Tryz.prog.bytesOf e) (hQ : ∀ a, Q a → a.cells = [a]) (h : RdV enc W e Q) : RdV enc W t (WN Q) := by
 intro fuel v d ps htr hw
 rcases open_slice1 ht hc htr with ⟨hv, hx⟩ | ⟨a, len, cap, m, n, V, D, Pl, hv, _, hl, hm, hmm, hx, hel⟩
 ·injection hv with hv
  subst hv
  exact ⟨.sl [], .inl ⟨[], rfl, by simp⟩, .slnil none 0⟩
 ·injection hv with hv
  subst hv
  simp only [if_true] at hmm
  subst hmm
  simp only [Prod.mk.injEq] at hx
  obtain ⟨rfl, rfl⟩ := hx
  have hw0 : (((List.range len).map D).length + ((List.range (m - len)).map fun j => D (len + j)).length) * Tryz.prog.bytesOf e ≤ reachBytes := hw _ (by simp [DataW.weights, ht])
  have hlen : len ≤ 140737488355328 := by
   simp only [List.length_map, List.length_range] at hw0
   have h1 : len * 1 ≤ (len + (m - len)) * Tryz.prog.bytesOf e := Nat.mul_le_mul (by omega) hb
   have h2 : reachBytes ≤ 140737488355328 := by decide
   omega
  by_cases hbig : 1099511627776 < len
  ·exact ⟨.big len, .inr ⟨len, by omega, hlen, rfl⟩, .big _ _ _ hlen⟩
  ·have hall : ∀ i, ∃ x, i < len → Q x ∧ VRel (gh0 W) x (V i) := by
    intro i
    by_cases hi : i < len
    ·obtain ⟨x, q1, q2⟩ := h n (V i) (D i) (Pl i) (hel i (by omega)).2 fun k hk => hw k (by
      simp only [DataW.weights, ht, List.mem_cons, List.mem_append]
      exact .inr (.inl (weightsAll_mem (List.mem_map.mpr ⟨i, List.mem_range.mpr hi, rfl⟩) hk)))
     exact ⟨x, fun _ => ⟨q1, q2⟩⟩
    ·exact ⟨.nilp, fun h => absurd h hi⟩
   obtain ⟨A, hA⟩ := Classical.axiomOfChoice hall
   have hget : ∀ i, i < len → ((List.range len).map A).getD i nv = A i := fun i hi => getD_map_range A nv hi
   refine ⟨.sl ((List.range len).map A), .inl ⟨_, rfl, fun x hx => ?_⟩, ?_⟩
   ·obtain ⟨i, hi, rfl⟩ := List.mem_map.mp hx
    exact (hA i (List.mem_range.mp hi)).1
   ·by_cases h0 : len = 0
    ·subst h0; exact .slnil _ _
    ·have hsp : a = ⟨a.block, a.off, none⟩ := by
      have := (hel 0 (by omega)).1
      obtain ⟨b, o, s⟩ := a
      cases s with
      | none => rfl
      | some s => exfalso; simp [Addr.add, World.cell?] at this; split at this <;> simp at this
     have hadd : ∀ i, a.add i = ⟨a.block, a.off + i, none⟩ := by
      intro i
      rw [hsp]
      unfold Addr.add
      split
      ·rename_i e; simp [e]
      ·rfl
     have key : VRel (gh0 W) (.sl ((List.range len).map A)) (.slice (some ⟨a.block, a.off, none⟩) ((List.range len).map A).length m) := by
      refine .sl _ a.block a.off 1 m V (by simp [maxL]; omega) (by simp; omega) (fun i hi => ?_) (fun i j hi hj => ?_) (fun i j hi hj => ?_)
      ·rw [hget i (by simpa using hi), hQ _ (hA i (by simpa using hi)).1]; rfl
      ·have hi' : i < len := by simpa using hi
       have := (hel i (by omega)).1
       rw [hadd] at this
       have e : i * 1 + j = i := by omega
       rw [e]; exact this
      ·have hi' : i < len := by simpa using hi
       have e : i * 1 + j = i := by omega
       obtain rfl : j = 0 := by omega
       rw [e, hget i hi', hQ _ (hA i hi').1]
       exact (hA i hi').2
     rw [List.length_map, List.length_range, ← hsp] at key
     exact key
theorem WB.of {a : AV} (h : WN (fun a => ∃ b : UInt8, a = Go.AW.iB b) a) : WB a := by
 rcases h with ⟨l, rfl, hl⟩ | h
 ·refine .inl ⟨l.map fun x => match x with | .int _ n => UInt8.ofNat n.toNat | _ => 0, ?_⟩
  rw [mL, List.map_map]
  congr 1
  have : ∀ x, x ∈ l → (Go.AW.iB ∘ fun x : AV => match x with | .int _ n => UInt8.ofNat n.toNat | _ => 0) x = x := fun x hx => by
   obtain ⟨n, rfl⟩ := hl x hx
   simp [Go.AW.iB]
  exact ((List.map_congr_left this).trans (by simp)).symm
 ·exact .inr h
theorem rd_bytes : ∀ fuel v d ps, DataW.trod enc Tryz.prog W 0 (fun _ => true) true fuel 22 [v] = some (d, ps) → (∀ n, n ∈ d.weights Tryz.prog 22 → n ≤ reachBytes) → ∃ a, WB a ∧ VRel (gh0 W) a v := fun fuel v d ps k w => by
 obtain ⟨a, q1, q2⟩ := rd_slice Tryz.underlying22 (by kernel_rfl) (of_decide_eq_true (by kernel_rfl)) (fun a ⟨n, e⟩ => by rw [e]; rfl) rd_byte fuel v d ps k w
 exact ⟨a, WB.of q1, q2⟩
end
theorem big_big (B n : Nat) (hn : 1048576 < n) : Pur Tryz.prog B 10 [.big n] (.bool true) := by
 refine ⟨fun H0 => c10 (by simp) fun hf => ?_⟩
 unfold s10
 try simp only [go_sem, reduceAdd]
 exact pure_ret (by congr 1; simp; omega) (.refl _)
end Go.Proofs.Shf
namespace Go.Proofs.Shf
open Go.AW Go.Proofs Go.Shf
theorem fnRows_all (B : Nat) (a : AV) (h : WB a) : Pur Tryz.prog B 6 [a] (.bool true) := by
 rcases h with ⟨l, rfl⟩ | ⟨n, hn, _, rfl⟩
 ·exact fnRows_ok B l
 ·refine ⟨fun H0 => c6p (by simp) fun _ => ?_⟩
  unfold s6p
  try simp only [go_sem, reduceAdd]
  refine (big_big B n hn).go fun _ => ?_
  try simp only [go_sem]
  exact pure_ret rfl (.refl _)
end Go.Proofs.Shf
