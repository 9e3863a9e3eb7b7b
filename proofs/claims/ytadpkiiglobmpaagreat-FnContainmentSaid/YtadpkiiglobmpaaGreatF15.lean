/- A part of a proof. -/
import Derived.Test.YtadpkiiglobmpaaGreatF14
import Derived.Deep.Slices
import Derived.SizedLaws
set_option linter.unusedVariables false
set_option linter.unusedSimpArgs false
set_option linter.unusedSectionVars false
open Nat (reduceEqDiff reduceAdd reduceMul reduceLeDiff reduceLT)
namespace Go.Proofs.Shf
open Go.AW Go.Proofs Go.Shf
theorem fnContainment_ok (B : Nat) (code : List UInt8) : Pur Tryz.prog B 7 [mL Go.AW.iB code] (.bool true) := by
 refine ⟨fun H0 => c7p (by simp) fun _ => ?_⟩
 unfold s7p
 have o : Owns H0 H0 [] := .nil _
 have d30 : decide ((3 : Int) = 0) = false := rfl
 have d03 : decide ((0 : Int) = 3) = false := rfl
 have hxx : ∀ b : Bool, (true ^^ (b == b)) = false := fun b => by cases b <;> rfl
 try simp only [go_sem, reduceAdd]
 refine (big_ok B code).go fun _ => ?_
 try simp only [go_sem]
 refine ⟨fun g0 => At.mk ?_, fun g0 => At.mk ?_⟩
 ·try simp only [go_sem]
  exact pure_ret rfl (.refl _)
 try simp only [go_sem]
 refine (drawCon_ok B code).go fun r _ ⟨c, p, q, e⟩ => ?_
 subst e
 try simp only [go_sem, reduceAdd, reduceLT]
 refine newRef_own o fun id3 H o => ?_
 try simp only [go_sem, reduceAdd]
 refine newRef_own o fun id4 H o => ?_
 try simp only [go_sem, reduceAdd]
 refine newRef_own o fun id5 H o => ?_
 try simp only [go_sem]
 refine stc (up2 o) fun H o => ?_
 simp only [wr_cons, wr_nil, List.set_cons_zero, List.set_cons_succ] at o
 try simp only [go_sem]
 refine stc (up2 o) fun H o => ?_
 simp only [wr_cons, wr_nil, List.set_cons_zero, List.set_cons_succ] at o
 try simp only [go_sem]
 refine stc (up2 o) fun H o => ?_
 simp only [wr_cons, wr_nil, List.set_cons_zero, List.set_cons_succ] at o
 try simp only [go_sem]
 refine wk_ref 5 o rfl fun H o => wk_ref 4 o rfl fun H o => wk_ref 3 o rfl fun H o => wkW_done ?_
 try simp only [go_sem, reduceAdd]
 refine (isContained_ok B c p q).go fun _ => ?_
 try simp only [go_sem, reduceAdd, reduceLT]
 refine (specIsContained_ok B c p q).go fun _ => ?_
 try simp only [go_sem, reduceAdd, reduceLT, dTrue, hxx]
 by_cases hC : conC c p q = 0
 rotate_left 1
 ·rw [decide_eq_false hC, dec_f fun hh => hC hh.1]
  try simp only [go_sem, dTrue]
  exact pure_ret rfl o.sub
 obtain ⟨⟨h, hp, hq⟩, hT, hfit, hP⟩ := conC_0 hC
 rw [hC]
 try simp only [go_sem, reduceAdd, dTrue]
 refine (canonSets_ok B c h p hp).go fun r _ hr => ?_
 rcases hr with ⟨_, hn⟩ | ⟨G, rfl, _, hG⟩
 ·exact absurd hfit hn
 have hGQ := GQ_eq h hG
 rw [← hGQ] at hP
 have hGI := hG.is h
 have hqG : q.Ok G.shape := by rw [hG.sh]; exact hq
 have hpG : p.Ok G.shape := by rw [hG.sh]; exact hp
 have hgl : (genT c p (clsQ c p)).length = p.v.length := by simp [genT]
 have ho4 := hp.o4
 have hCB : ConB c p q ↔ ∃ s, s ∈ solQ G q ∧ thenT q.o s = rowG c p := ⟨fun hh => by obtain ⟨_, s, hs, e⟩ := hh; exact ⟨s, by rw [hGQ]; exact hs, e⟩, fun ⟨s, hs, e⟩ => ⟨hC, s, by rw [← hGQ]; exact hs, e⟩⟩
 obtain ⟨b, hb⟩ : ∃ b, dec (ConB c p q) = b := ⟨_, rfl⟩
 rw [hb]
 try simp only [go_sem, reduceAdd, reduceLT]
 refine ⟨by simp [maxL], newRef_own o fun id10 H o => ?_⟩
 try simp only [go_sem]
 refine stc o fun H o => ?_
 simp only [wr_cons, wr_nil, List.set_cons_zero, List.set_cons_succ] at o
 try simp only [go_sem]
 refine wk_ref 10 o rfl fun H o => wkW_done ?_
 try simp only [go_sem, reduceAdd, reduceLeDiff, dTrue, hgl]
 refine new_list iI o fun id13 H o => ?_
 try simp only [go_sem]
 have hrl : (rowG c p).length = p.o.length := by simp [rowG, thenT]
 refine awp_for [0, 3, 4, 5, 6, 10, 11] (G := Nat × List Int) (fun k g => [(13, some (.buf g.1 g.2.length)), (14, some (.int .i64 (k : Int)))])
  (fun k g H => g.2 = (rowG c p).take k ∧ Owns H0 H [(g.1, .cells 1 (g.2.map iI) 0)]) p.o.length (id13, []) ⟨by simp, o⟩ rfl ?_
 clear o
 rintro k ⟨id13, out⟩ H hk ⟨hout, o⟩
 dsimp only at hout o
 try simp only [go_sem, reduceAdd, reduceLeDiff]
 refine ⟨fun h1 => At.mk ?_, fun h1 => At.mk ?_⟩
 ·have h1p : k < p.o.length := of_decide h1
  have w1 := wsucc (k := k) (by omega)
  have hok := (hp.oAt (mem_getD.mpr ⟨k, h1p, rfl⟩)).1
  try simp only [go_sem, reduceAdd, reduceLeDiff]
  refine ⟨h1p, ?_⟩
  refine ⟨⟨hok.1, by omega⟩, ?_⟩
  refine app_own (ix (genT c p (clsQ c p)) (p.o.getD k default)) o rfl rfl (by rw [hout, List.length_take]; simp only [maxL]; omega) fun z H o => ?_
  try simp only [go_sem, w1]
  refine for_next (z, out ++ [ix (genT c p (clsQ c p)) (p.o.getD k default)]) h1p ⟨?_, o⟩ rfl
  rw [hout, take_one _ (by omega), rowG, thenT, map_getD _ h1p]
 have h1p := of_ndecide h1
 have ek : k = p.o.length := by omega
 rw [ek, ← hrl, List.take_length] at hout
 subst hout
 try simp only [go_sem]
 refine fz_own o rfl fun H o => ?_
 try simp only [go_sem, reduceAdd]
 refine (rowSupport_ok B G q (rowG c p)).go fun _ => ?_
 try simp only [go_sem, reduceAdd, reduceLT]
 refine (rowSupport_ok B G p (rowG c p)).go fun _ => ?_
 have hcq : codQ G q = 0 := by rw [codQ, if_pos ⟨hGI, hqG⟩, if_pos hP]
 have hd : decide (supC G q (rowG c p) = 0) = b := by
  rw [← hb, supC, if_pos hcq]
  by_cases hcb : ConB c p q
  ·obtain ⟨s, hs, e⟩ := hCB.mp hcb
   rw [dec_t hcb, if_neg]
   ·rfl
   ·intro e2
    have : s ∈ supQ G q (rowG c p) := List.mem_filter.mpr ⟨hs, decide_eq_true e⟩
    rw [e2] at this; simp at this
  ·rw [dec_f hcb, if_pos]
   ·rfl
   ·refine List.eq_nil_iff_forall_not_mem.mpr fun s hs => hcb (hCB.mpr ⟨s, (List.mem_filter.mp hs).1, of_decide_eq_true (List.mem_filter.mp hs).2⟩)
 have h5 : supC G p (rowG c p) = 0 ∨ supC G p (rowG c p) = 3 := by
  by_cases e : codQ G p = 0
  ·left
   rw [supC, if_pos e, if_neg]
   intro e2
   have : genT c p (clsQ c p) ∈ supQ G p (rowG c p) := List.mem_filter.mpr ⟨hG.gen h hp, decide_eq_true rfl⟩
   rw [e2] at this; simp at this
  ·right
   rw [supC, if_neg e]
   rw [codQ, if_pos ⟨hGI, hpG⟩] at e ⊢
   split
   ·rw [if_pos ‹_›] at e; exact absurd rfl e
   ·rfl
 try simp only [go_sem, reduceAdd, reduceLT, hd, hxx]
 rcases h5 with e5 | e5
 all_goals
  rw [e5]
  try simp only [go_sem, dTrue, d30, d03]
  refine (roll_ok B code 16 _).mono' fun r H _ ⟨id, s2, e, hs2, o2⟩ => ?_
  subst e
  have o : Owns H0 H [(id, s2.obj)] := o.trans o2
  try simp only [go_sem, reduceAdd, reduceLeDiff]
  by_cases hn0 : c.objs = 0
  ·have hbt : b = true := by rw [← hb]; exact dec_t (hCB.mpr (empty_contained hn0 h hp hq hG))
   rw [decide_eq_true hn0, hbt]
   try simp only [go_sem]
   exact pure_ret rfl o.sub
  rw [decide_eq_false hn0]
  have hobj := h.1.o
  try simp only [go_sem, reduceAdd, reduceLeDiff]
  have hrep : ∀ n : Int, 0 ≤ n ∧ n < c.objs → ∃ (g : SF) (k : Int), PureF Tryz.prog B 37 [.agg c.cells, iI n] (.tup [.agg g.cells, iI k]) ∧ ((k = 0 ∧ g.shape = c) ∨ k = 3) := fun n hn => by
   by_cases hf : RepFew c n
   ·exact ⟨repF c n, 0, fun H => (representableG_ok B c h n hn H).mono fun r H' ⟨hr, e⟩ => ⟨hr.elim (fun x => x.2) (fun x => absurd hf x.1), e⟩, .inl ⟨rfl, rfl⟩⟩
   ·exact ⟨nilF, 3, fun H => (representableG_ok B c h n hn H).mono fun r H' ⟨hr, e⟩ => ⟨hr.elim (fun x => absurd x.1 hf) (fun x => x.2), e⟩, .inr rfl⟩
  refine ⟨?_, ?_⟩
  focus
   refine (below_ok B c.objs).go hs2 o fun r s3 H _ ⟨n, e, hk0, hk1, _⟩ hs o => ?_
   subst e
   obtain ⟨g, k6, hpr, hgk⟩ := hrep n ⟨hk0, hk1 (by omega)⟩
   try simp only [go_sem]
   refine ⟨_, hpr, ?_⟩
   try simp only [go_sem, reduceAdd, reduceLT]
   refine ⟨by simp [maxL], newRef_own o fun id20 H o => ?_⟩
   try simp only [go_sem]
  rotate_left 1
  focus
   refine ⟨by simp [maxL], newRef_own o fun id20 H o => ?_⟩
   try simp only [go_sem]
   refine (below_ok B c.objs).go hs2 o.swap fun r s3 H _ ⟨n, e, hk0, hk1, _⟩ hs o => ?_
   subst e
   obtain ⟨g, k6, hpr, hgk⟩ := hrep n ⟨hk0, hk1 (by omega)⟩
   try simp only [go_sem]
   refine ⟨_, hpr, ?_⟩
   replace o := o.swap
   try simp only [go_sem, reduceAdd, reduceLT]
  all_goals
   refine stc o fun H o => ?_
   simp only [wr_cons, wr_nil, List.set_cons_zero, List.set_cons_succ] at o
   try simp only [go_sem]
   refine wk_ref 20 o rfl fun H o => wkW_done ?_
   rcases hgk with ⟨rfl, hgs⟩ | rfl
   rotate_left 1
   ·try simp only [go_sem, dTrue, d30, d03]
    exact pure_ret rfl o.sub
   try simp only [go_sem, reduceAdd, dTrue, d30, d03]
   refine (runQuery_ok B g p).go fun _ => ?_
   try simp only [go_sem, reduceAdd, reduceLT]
   refine (runQuery_ok B g q).go fun _ => ?_
   try simp only [go_sem, reduceAdd, reduceLT]
   by_cases c1 : codQ g p = 0
   rotate_left 1
   ·rw [decide_eq_false c1]
    try simp only [go_sem]
    exact pure_ret rfl o.sub
   rw [decide_eq_true c1]
   try simp only [go_sem]
   by_cases c2 : codQ g q = 0
   rotate_left 1
   ·rw [decide_eq_false c2]
    try simp only [go_sem]
    exact pure_ret rfl o.sub
   rw [decide_eq_true c2]
   try simp only [go_sem]
   by_cases hcb : ConB c p q
   rotate_left 1
   ·have hbf : b = false := by rw [← hb]; exact dec_f hcb
    rw [hbf]
    try simp only [go_sem]
    exact pure_ret rfl o.sub
   have hbt : b = true := by rw [← hb]; exact dec_t hcb
   obtain ⟨s0, hs0, es0⟩ := hCB.mp hcb
   obtain ⟨⟨hgI, hgp⟩, _⟩ := codQ_0 c1
   have hgq := (codQ_0 c2).1.2
   have hR1 : ansR g p = rowsQ g p := by rw [ansR, if_pos c1]
   have hR2 : ansR g q = rowsQ g q := by rw [ansR, if_pos c2]
   have hl1 := rowsQ_len hgI hgp
   have hl2 := rowsQ_len hgI hgq
   rw [hbt, hR1, hR2]
   try simp only [go_sem]
   refine awp_for [22, 24] (fun i _ => [(26, some (.int .i64 (i : Int)))]) (fun i _ H => H0.sub H) (rowsQ g p).length () o.sub rfl ?_
   clear o
   rintro i _ H hi o
   try simp only [go_sem]
   refine ⟨fun h2 => At.mk ?_, fun h2 => At.mk ?_⟩
   ·have h2p : i < (rowsQ g p).length := of_decide h2
    have w2 := wsucc (k := i) (by omega)
    have hri : (rowsQ g p).getD i default ∈ rowsQ g q := contain_rows h hp hq hT hG hgI hgs hs0 es0 (mem_getD.mpr ⟨i, h2p, rfl⟩)
    obtain ⟨F, hF0, hFs, hFe⟩ : ∃ F : Nat → Bool, F 0 = false ∧ (∀ k, F (k + 1) = (F k || dec ((rowsQ g p).getD i default = (rowsQ g q).getD k default))) ∧ F (rowsQ g q).length = true := by
     obtain ⟨j, hj, hg⟩ := mem_getD.mp hri
     exact ⟨flagK false fun k => dec ((rowsQ g p).getD i default = (rowsQ g q).getD k default), rfl, fun _ => rfl, flagK_mono _ _ hj (dec_t hg.symm)⟩
    try simp only [go_sem]
    refine awp_for [22, 24, 26] (fun k _ => [(27, some (.bool (F k))), (28, some (.int .i64 (k : Int)))]) (fun k _ H => H0.sub H) (rowsQ g q).length () o (by rw [hF0]; rfl) ?_
    clear o
    rintro k _ H hk o
    try simp only [go_sem]
    refine ⟨fun h4 => At.mk ?_, fun h4 => At.mk ?_⟩
    ·have h4p : k < (rowsQ g q).length := of_decide h4
     have w4 := wsucc (k := k) (by omega)
     have hsk := hFs k
     try simp only [go_sem]
     cases hbk : F k
     ·rw [hbk] at hsk
      try simp only [go_sem]
      refine ⟨h2p, ?_⟩
      refine ⟨h4p, ?_⟩
      refine ⟨_, (likeInts_ok B _ _).run, ?_⟩
      try simp only [go_sem, w4]
      exact for_next () h4p o (by rw [hsk]; rfl)
     ·rw [hbk] at hsk
      try simp only [go_sem, w4]
      exact for_next () h4p o (by rw [hsk]; rfl)
    have h4p := of_ndecide h4
    have ek4 : k = (rowsQ g q).length := by omega
    rw [ek4, hFe]
    try simp only [go_sem, w2]
    exact for_next () h2p o rfl
   ·have h2p := of_ndecide h2
    try simp only [go_sem]
    exact pure_ret rfl o
end Go.Proofs.Shf
namespace Go.Proofs.Shf
open Go.AW Go.Proofs Go.Shf
end Go.Proofs.Shf
namespace Go.AW
def WN (P : AV → Prop) (a : AV) : Prop := (∃ al : List AV, a = .sl al ∧ ∀ x, x ∈ al → P x) ∨ ∃ n, 1048576 < n ∧ n ≤ 140737488355328 ∧ a = .big n
def WB (a : AV) : Prop := (∃ l : List UInt8, a = mL iB l) ∨ ∃ n, 1048576 < n ∧ n ≤ 140737488355328 ∧ a = .big n
end Go.AW
namespace Go.Proofs.Shf
open Go.AW Go.Proofs Go.Shf
open Go.Deep
def gh0 (W : World) : Gh := ⟨fun b o => W.cell? ⟨b, o, none⟩, fun _ => none, fun _ => none⟩
theorem wrel0 (W : World) : WRel (gh0 W) W.heap.size [] W where
 fz b o v h := h
 fm b es h := by cases h
 ob i o h := by simp [Heap.get] at h
 inj i j b c c' n h := by simp [Heap.get] at h
 injm i j b n h := by simp [Heap.get] at h
 base := Nat.le_refl _
 fin := ⟨0, fun i _ => rfl⟩
section
variable {H : Type} {enc : TypeId × Value → H} {W : World}
def RdV (enc : TypeId × Value → H) (W : World) (t : TypeId) (Q : AV → Prop) : Prop :=
 ∀ fuel v d ps, DataW.trod enc Tryz.prog W 0 (fun _ => true) true fuel t [v] = some (d, ps) → (∀ n, n ∈ d.weights Tryz.prog t → n ≤ reachBytes) → ∃ a, Q a ∧ VRel (gh0 W) a v
theorem rd_byte : RdV enc W 5 fun a => ∃ b : UInt8, a = Go.AW.iB b := by
 intro fuel v d ps h _
 cases fuel with
 | zero => simp [DataW.trod] at h
 | succ fuel =>
  cases v <;> simp only [DataW.trod, Tryz.underlying5] at h <;> try (cases h; done)
  rename_i k n
  split at h
  ·rename_i hk
   obtain ⟨rfl, hf⟩ := hk
   have hr : 0 ≤ n ∧ n ≤ 255 := by
    simp only [Lit.wf, Bool.and_eq_true, decide_eq_true_eq] at hf
    exact ⟨hf.1, hf.2⟩
   refine ⟨_, ⟨UInt8.ofNat n.toNat, rfl⟩, ?_⟩
   have e : Go.AW.iB (UInt8.ofNat n.toNat) = .int .u8 n := by
    have h1 : (UInt8.ofNat n.toNat).toNat = n.toNat := by rw [UInt8.toNat_ofNat']; omega
    rw [Go.AW.iB, h1, Int.toNat_of_nonneg hr.1]
   rw [e]
   exact .int _ n
  ·cases h
theorem weightsAll_mem {P : Program} {e : TypeId} {l : List (DataW H)} {x : DataW H} (hx : x ∈ l) {n : Nat} (hn : n ∈ x.weights P e) : n ∈ DataW.weightsAll P e l := by
 induction l with
 | nil => simp at hx
 | cons y r ih =>
  simp only [DataW.weightsAll, List.mem_append]
  rcases List.mem_cons.mp hx with rfl | hx
  ·exact .inl hn
  ·exact .inr (ih hx)
theorem rd_slice {t e : TypeId} {Q : AV → Prop} (ht : Tryz.prog.underlying t = some (.slice e)) (hc : Tryz.prog.cellsOf e = 1) (hb : 1 ≤ Tryz.prog.bytesOf e) (hQ : ∀ a, Q a → a.cells = [a]) (h : RdV enc W e Q) : RdV enc W t (WN Q) := by
 intro fuel v d ps htr hw
 rcases open_slice1 ht hc htr with ⟨hv, hx⟩ | ⟨a, len, cap, m, n, V, D, Pl, hv, _, hl, hm, hmm, hx, hel⟩
 ·injection hv with hv
  subst hv
  exact ⟨.sl [], .inl ⟨[], rfl, by simp⟩, .slnil none 0⟩
 ·injection hv with hv
  subst hv
  simp only [if_true] at hmm
  subst hmm
  simp only [Prod.mk.injEq] at hx
  obtain ⟨rfl, rfl⟩ := hx
  have hw0 : (((List.range len).map D).length + ((List.range (m - len)).map fun j => D (len + j)).length) * Tryz.prog.bytesOf e ≤ reachBytes := hw _ (by simp [DataW.weights, ht])
  have hlen : len ≤ 140737488355328 := by
   simp only [List.length_map, List.length_range] at hw0
   have h1 : len * 1 ≤ (len + (m - len)) * Tryz.prog.bytesOf e := Nat.mul_le_mul (by omega) hb
   have h2 : reachBytes ≤ 140737488355328 := by decide
   omega
  by_cases hbig : 1099511627776 < len
  ·exact ⟨.big len, .inr ⟨len, by omega, hlen, rfl⟩, .big _ _ _ hlen⟩
  ·have hall : ∀ i, ∃ x, i < len → Q x ∧ VRel (gh0 W) x (V i) := by
    intro i
    by_cases hi : i < len
    ·obtain ⟨x, q1, q2⟩ := h n (V i) (D i) (Pl i) (hel i (by omega)).2 fun k hk => hw k (by
      simp only [DataW.weights, ht, List.mem_cons, List.mem_append]
      exact .inr (.inl (weightsAll_mem (List.mem_map.mpr ⟨i, List.mem_range.mpr hi, rfl⟩) hk)))
     exact ⟨x, fun _ => ⟨q1, q2⟩⟩
    ·exact ⟨.nilp, fun h => absurd h hi⟩
   obtain ⟨A, hA⟩ := Classical.axiomOfChoice hall
   have hget : ∀ i, i < len → ((List.range len).map A).getD i nv = A i := fun i hi => getD_map_range A nv hi
   refine ⟨.sl ((List.range len).map A), .inl ⟨_, rfl, fun x hx => ?_⟩, ?_⟩
   ·obtain ⟨i, hi, rfl⟩ := List.mem_map.mp hx
    exact (hA i (List.mem_range.mp hi)).1
   ·by_cases h0 : len = 0
    ·subst h0; exact .slnil _ _
    ·have hsp : a = ⟨a.block, a.off, none⟩ := by
      have := (hel 0 (by omega)).1
      obtain ⟨b, o, s⟩ := a
      cases s with
      | none => rfl
      | some s => exfalso; simp [Addr.add, World.cell?] at this; split at this <;> simp at this
     have hadd : ∀ i, a.add i = ⟨a.block, a.off + i, none⟩ := by
      intro i
      rw [hsp]
      unfold Addr.add
      split
      ·rename_i e; simp [e]
      ·rfl
     have key : VRel (gh0 W) (.sl ((List.range len).map A)) (.slice (some ⟨a.block, a.off, none⟩) ((List.range len).map A).length m) := by
      refine .sl _ a.block a.off 1 m V (by simp [maxL]; omega) (by simp; omega) (fun i hi => ?_) (fun i j hi hj => ?_) (fun i j hi hj => ?_)
      ·rw [hget i (by simpa using hi), hQ _ (hA i (by simpa using hi)).1]; rfl
      ·have hi' : i < len := by simpa using hi
       have := (hel i (by omega)).1
       rw [hadd] at this
       have e : i * 1 + j = i := by omega
       rw [e]; exact this
      ·have hi' : i < len := by simpa using hi
       have e : i * 1 + j = i := by omega
       obtain rfl : j = 0 := by omega
       rw [e, hget i hi', hQ _ (hA i hi').1]
       exact (hA i hi').2
     rw [List.length_map, List.length_range, ← hsp] at key
     exact key
theorem WB.of {a : AV} (h : WN (fun a => ∃ b : UInt8, a = Go.AW.iB b) a) : WB a := by
 rcases h with ⟨l, rfl, hl⟩ | h
 ·refine .inl ⟨l.map fun x => match x with | .int _ n => UInt8.ofNat n.toNat | _ => 0, ?_⟩
  rw [mL, List.map_map]
  congr 1
  have : ∀ x, x ∈ l → (Go.AW.iB ∘ fun x : AV => match x with | .int _ n => UInt8.ofNat n.toNat | _ => 0) x = x := fun x hx => by
   obtain ⟨n, rfl⟩ := hl x hx
   simp [Go.AW.iB]
  exact ((List.map_congr_left this).trans (by simp)).symm
 ·exact .inr h
theorem rd_bytes : ∀ fuel v d ps, DataW.trod enc Tryz.prog W 0 (fun _ => true) true fuel 22 [v] = some (d, ps) → (∀ n, n ∈ d.weights Tryz.prog 22 → n ≤ reachBytes) → ∃ a, WB a ∧ VRel (gh0 W) a v := fun fuel v d ps k w => by
 obtain ⟨a, q1, q2⟩ := rd_slice Tryz.underlying22 (by kernel_rfl) (of_decide_eq_true (by kernel_rfl)) (fun a ⟨n, e⟩ => by rw [e]; rfl) rd_byte fuel v d ps k w
 exact ⟨a, WB.of q1, q2⟩
end
theorem big_big (B n : Nat) (hn : 1048576 < n) : Pur Tryz.prog B 10 [.big n] (.bool true) := by
 refine ⟨fun H0 => c10 (by simp) fun hf => ?_⟩
 unfold s10
 try simp only [go_sem, reduceAdd]
 exact pure_ret (by congr 1; simp; omega) (.refl _)
end Go.Proofs.Shf
namespace Go.Proofs.Shf
open Go.AW Go.Proofs Go.Shf
theorem fnContainment_all (B : Nat) (a : AV) (h : WB a) : Pur Tryz.prog B 7 [a] (.bool true) := by
 rcases h with ⟨l, rfl⟩ | ⟨n, hn, _, rfl⟩
 ·exact fnContainment_ok B l
 ·refine ⟨fun H0 => c7p (by simp) fun _ => ?_⟩
  unfold s7p
  try simp only [go_sem, reduceAdd]
  refine (big_big B n hn).go fun _ => ?_
  try simp only [go_sem]
  exact pure_ret rfl (.refl _)
end Go.Proofs.Shf
