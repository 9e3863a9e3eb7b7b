/- Contracts, part 6. -/
import Derived.Test.YtadpkiiglobmpaaGreatF5
set_option linter.unusedVariables false
set_option linter.unusedSimpArgs false
set_option linter.unusedSectionVars false
open Nat (reduceEqDiff reduceAdd reduceMul reduceLeDiff reduceLT)
namespace Go.Proofs.Shf
open Go.AW Go.Proofs Go.Shf
theorem l02Object_ok (B : Nat) (c : Cat) (x : Int) : Pur Tryz.prog B 200 [.agg c.cells, iI x] (.bool (dec (0 ≤ x ∧ x < c.objs))) := by
  refine ⟨fun H0 => c200 (by simp) fun hf => ?_⟩
  unfold s200
  (try simp only [go_sem, ↓reduceIte, reduceEqDiff, reduceAdd, reduceMul, reduceLeDiff, reduceLT])
  refine ⟨fun h1 => At.mk ?_, fun h1 => At.mk ?_⟩
  · (try simp only [go_sem, ↓reduceIte, reduceEqDiff, reduceAdd, reduceMul, reduceLeDiff, reduceLT, h1])
    have h1p := of_decide h1
    exact pure_ret (by congr 1; rw [decide_dec]; exact dec_congr ⟨fun h => ⟨h1p, h⟩, fun h => h.2⟩) (.refl _)
  · (try simp only [go_sem, ↓reduceIte, reduceEqDiff, reduceAdd, reduceMul, reduceLeDiff, reduceLT, h1])
    exact pure_ret (by rw [dec_f (fun h => of_ndecide h1 h.1)]) (.refl _)
def ListQ (r : AV) : Prop := ∃ l : List Int, r = iL l
theorem l25List_ok (B : Nat) (c : Cat) (x : Int) : Rd B 94 [.agg c.cells, iI x] ListQ := by
  intro id s H0 H hs o
  refine c94p (by simp) fun _ => ?_
  unfold s94p
  (try simp only [go_sem, ↓reduceIte, reduceEqDiff, reduceAdd, reduceMul, reduceLeDiff, reduceLT])
  refine (l02Is_ok B c).go fun _ => ?_
  (try simp only [go_sem, ↓reduceIte, reduceEqDiff, reduceAdd, reduceMul, reduceLeDiff, reduceLT])
  by_cases hI : c.Is
  focus
    rw [dec_t hI]
    (try simp only [go_sem, ↓reduceIte, reduceEqDiff, reduceAdd, reduceMul, reduceLeDiff, reduceLT])
    refine (l02Object_ok B c x).go fun _ => ?_
    (try simp only [go_sem, ↓reduceIte, reduceEqDiff, reduceAdd, reduceMul, reduceLeDiff, reduceLT])
    by_cases hx : 0 ≤ x ∧ x < c.objs
    focus
      rw [dec_t hx]
      (try simp only [go_sem, ↓reduceIte, reduceEqDiff, reduceAdd, reduceMul, reduceLeDiff, reduceLT])
      refine (l25Out_ok B c x).go fun _ => ?_
      (try simp only [go_sem, ↓reduceIte, reduceEqDiff, reduceAdd, reduceMul, reduceLeDiff, reduceLT])
      refine newBuf_own o fun idl H o => ?_
      (try simp only [go_sem, ↓reduceIte, reduceEqDiff, reduceAdd, reduceMul, reduceLeDiff, reduceLT])
      have hm := hI.1.m
      have hout : ∀ a, a ∈ outs c x → 0 ≤ a ∧ a.toNat < c.frm.length := fun a ha => ⟨(mem_outs.mp ha).1, (mem_outs.mp ha).2.1⟩
      have hol : (outs c x).length ≤ 40 := by
        rw [outs, List.length_map]
        refine Nat.le_trans (List.length_filter_le _ _) ?_
        rw [List.length_range]; omega
      refine awp_for [0, 4, 7] (G := Src × Nat × List Int) (fun k g => [(8, some (.buf g.2.1 g.2.2.length)), (9, some (.int .i64 (k : Int)))])
        (fun k g H => g.1.Ok ∧ g.2.2.length ≤ k ∧ (∀ a, a ∈ g.2.2 → 0 ≤ a ∧ a.toNat < c.frm.length) ∧ Owns H0 H [(id, g.1.obj), (g.2.1, MObj.cells 1 (g.2.2.map iI) 0)]) (outs c x).length (s, idl, []) ⟨hs, Nat.le_refl _, by simp, o.swap⟩ rfl ?_
      clear o hs
      rintro k ⟨s, idl, L⟩ H hk ⟨hs, hL, hLr, o⟩
      replace hs : s.Ok := hs
      replace hL : L.length ≤ k := hL
      replace hLr : ∀ a, a ∈ L → 0 ≤ a ∧ a.toNat < c.frm.length := hLr
      replace o : Owns H0 H [(id, s.obj), (idl, MObj.cells 1 (L.map iI) 0)] := o
      (try simp only [go_sem, ↓reduceIte, reduceEqDiff, reduceAdd, reduceMul, reduceLeDiff, reduceLT])
      refine ⟨fun h1 => At.mk ?_, fun h1 => At.mk ?_⟩
      · have h1p := of_decide h1
        have w := wsucc (k := k) (by omega)
        (try simp only [go_sem, ↓reduceIte, reduceEqDiff, reduceAdd, reduceMul, reduceLeDiff, reduceLT])
        refine (l01Next_ok B 3).go hs o fun r s H _ ⟨v, e, _⟩ hs o => ?_
        subst e
        (try simp only [go_sem, ↓reduceIte, reduceEqDiff, reduceAdd, reduceMul, reduceLeDiff, reduceLT])
        refine ⟨fun h2 => At.mk ?_, fun h2 => At.mk ?_⟩
        · (try simp only [go_sem, ↓reduceIte, reduceEqDiff, reduceAdd, reduceMul, reduceLeDiff, reduceLT])
          refine ⟨h1p, app_own' _ o.swap rfl rfl (by simp only [maxL]; omega) fun idl H L2 eL hL2 o => ?_⟩
          (try simp only [go_sem, ↓reduceIte, reduceEqDiff, reduceAdd, reduceMul, reduceLeDiff, reduceLT, w])
          refine for_next (s, idl, L2) h1p ⟨hs, by show L2.length ≤ _; omega, fun a ha => ?_, o.swap⟩ rfl
          replace ha : a ∈ L2 := ha
          rw [eL] at ha
          rcases List.mem_append.mp ha with h | h
          · exact hLr a h
          · rw [List.mem_singleton] at h; subst h; exact hout _ (mem_getD.mpr ⟨k, h1p, rfl⟩)
        · (try simp only [go_sem, ↓reduceIte, reduceEqDiff, reduceAdd, reduceMul, reduceLeDiff, reduceLT, w])
          exact for_next (s, idl, L) h1p ⟨hs, by show L.length ≤ _; omega, hLr, o⟩ rfl
      · (try simp only [go_sem, ↓reduceIte, reduceEqDiff, reduceAdd, reduceMul, reduceLeDiff, reduceLT])
        refine (l01Next_ok B 5).go hs o fun r s H _ ⟨v, e, _⟩ hs o => ?_
        subst e
        (try simp only [go_sem, ↓reduceIte, reduceEqDiff, reduceAdd, reduceMul, reduceLeDiff, reduceLT])
        refine ⟨fun h2 => At.mk ?_, fun h2 => At.mk ?_⟩
        · (try simp only [go_sem, ↓reduceIte, reduceEqDiff, reduceAdd, reduceMul, reduceLeDiff, reduceLT])
          refine call_fz 1 rfl o.swap rfl fun H o => ?_
          refine (l25Close_ok B c hI.1 L hLr).go fun _ => ?_
          (try simp only [go_sem, ↓reduceIte, reduceEqDiff, reduceAdd, reduceMul, reduceLeDiff, reduceLT])
          exact src_ret ⟨_, rfl⟩ hs o
        · (try simp only [go_sem, ↓reduceIte, reduceEqDiff, reduceAdd, reduceMul, reduceLeDiff, reduceLT])
          refine (l01Next_ok B 8).go hs o fun r s H _ ⟨v, e, _⟩ hs o => ?_
          subst e
          (try simp only [go_sem, ↓reduceIte, reduceEqDiff, reduceAdd, reduceMul, reduceLeDiff, reduceLT])
          refine ⟨fun h3 => At.mk ?_, fun h3 => At.mk ?_⟩
          · (try simp only [go_sem, ↓reduceIte, reduceEqDiff, reduceAdd, reduceMul, reduceLeDiff, reduceLT])
            refine (l02Number_ok B _).go hs o fun r s H _ ⟨v, e⟩ hs o => ?_
            subst e
            (try simp only [go_sem, ↓reduceIte, reduceEqDiff, reduceAdd, reduceMul, reduceLeDiff, reduceLT])
            refine app_own' _ o.swap rfl rfl (by simp only [maxL]; omega) fun idl H L2 eL hL2 o => ?_
            (try simp only [go_sem, ↓reduceIte, reduceEqDiff, reduceAdd, reduceMul, reduceLeDiff, reduceLT])
            refine fz_own o rfl fun H o => ?_
            (try simp only [go_sem, ↓reduceIte, reduceEqDiff, reduceAdd, reduceMul, reduceLeDiff, reduceLT])
            exact src_ret ⟨_, rfl⟩ hs o
          · (try simp only [go_sem, ↓reduceIte, reduceEqDiff, reduceAdd, reduceMul, reduceLeDiff, reduceLT])
            refine fz_own o.swap rfl fun H o => ?_
            (try simp only [go_sem, ↓reduceIte, reduceEqDiff, reduceAdd, reduceMul, reduceLeDiff, reduceLT])
            exact src_ret ⟨_, rfl⟩ hs o
    rotate_left 1
    rw [dec_f hx]
  rotate_left 1
  rw [dec_f hI]
  all_goals
    (try simp only [go_sem, ↓reduceIte, reduceEqDiff, reduceAdd, reduceMul, reduceLeDiff, reduceLT])
    refine newBuf_own o fun idl H o => ?_
    (try simp only [go_sem, ↓reduceIte, reduceEqDiff, reduceAdd, reduceMul, reduceLeDiff, reduceLT])
    refine fz_own (f := iI) (out := []) o rfl fun H o => ?_
    (try simp only [go_sem, ↓reduceIte, reduceEqDiff, reduceAdd, reduceMul, reduceLeDiff, reduceLT])
    exact src_ret ⟨[], rfl⟩ hs o
theorem l02Draw_ok (B : Nat) (mo ma : Int) : Rd B 174 [iI mo, iI ma] AnyQ := by
  intro id s H0 H hs o
  refine c174 (by simp) fun _ => ?_
  unfold s174
  (try simp only [go_sem, ↓reduceIte, reduceEqDiff, reduceAdd, reduceMul, reduceLeDiff, reduceLT])
  refine newRef_own o fun id6 H o => ?_
  (try simp only [go_sem, ↓reduceIte, reduceEqDiff, reduceAdd, reduceMul, reduceLeDiff, reduceLT])
  refine (l02Some_ok B mo ma).go hs o.swap fun r s H _ ⟨c, e, hc⟩ hs o => ?_
  subst e
  (try simp only [go_sem, ↓reduceIte, reduceEqDiff, reduceAdd, reduceMul, reduceLeDiff, reduceLT])
  refine newRef_own o fun id7 H o => ?_
  (try simp only [go_sem, ↓reduceIte, reduceEqDiff, reduceAdd, reduceMul, reduceLeDiff, reduceLT])
  refine st_cells o (by simp) (by (try simp only [go_sem]); (try simp)) (by first | (simp only [go_sem]; done) | ((try simp only [go_sem]); simp [AV.one, one_mL])) fun H o => ?_
  simp only [wr_cons, wr_nil, List.set_cons_zero, List.set_cons_succ] at o
  (try simp only [go_sem, ↓reduceIte, reduceEqDiff, reduceAdd, reduceMul, reduceLeDiff, reduceLT])
  refine (l01Next_ok B 24).go hs o.swap fun r s H _ ⟨v, e, _⟩ hs o => ?_
  subst e
  (try simp only [go_sem, ↓reduceIte, reduceEqDiff, reduceAdd, reduceMul, reduceLeDiff, reduceLT])
  refine ⟨fun h1 => At.mk ?_, fun h1 => At.mk ?_⟩
  focus
    (try simp only [go_sem, ↓reduceIte, reduceEqDiff, reduceAdd, reduceMul, reduceLeDiff, reduceLT])
    refine rd_celln o.tl (by simp) ?_
    (try simp only [go_sem, ↓reduceIte, reduceEqDiff, reduceAdd, reduceMul, reduceLeDiff, reduceLT])
    refine (l02Bend_ok B 20000 (by omega) c hc).go hs o fun r s H _ ⟨c2, e⟩ hs o => ?_
    subst e
    (try simp only [go_sem, ↓reduceIte, reduceEqDiff, reduceAdd, reduceMul, reduceLeDiff, reduceLT])
    refine st_cells (o.pull [_, _]) (by simp) (by (try simp only [go_sem]); (try simp)) (by first | (simp only [go_sem]; done) | ((try simp only [go_sem]); simp [AV.one, one_mL])) fun H o => ?_
    simp only [wr_cons, wr_nil, List.set_cons_zero, List.set_cons_succ] at o
  rotate_left 1
  focus
    (try simp only [go_sem, ↓reduceIte, reduceEqDiff, reduceAdd, reduceMul, reduceLeDiff, reduceLT])
    refine rd_celln o.tl (by simp) ?_
    (try simp only [go_sem, ↓reduceIte, reduceEqDiff, reduceAdd, reduceMul, reduceLeDiff, reduceLT])
    refine st_cells (o.pull [_, _]) (by simp) (by (try simp only [go_sem]); (try simp)) (by first | (simp only [go_sem]; done) | ((try simp only [go_sem]); simp [AV.one, one_mL])) fun H o => ?_
    simp only [wr_cons, wr_nil, List.set_cons_zero, List.set_cons_succ] at o
  all_goals
    (try simp only [go_sem, ↓reduceIte, reduceEqDiff, reduceAdd, reduceMul, reduceLeDiff, reduceLT])
    have hr2 := o.rc 5 0 (by simp)
    simp only [List.drop_zero] at hr2
    rw [hr2]
    (try simp only [go_sem, ↓reduceIte, reduceEqDiff, reduceAdd, reduceMul, reduceLeDiff, reduceLT])
    exact src_ret (anyQ _ _ _ _ _) hs o.swap
def BaseQ (r : AV) : Prop := ∃ (c : Cat) (x : Int), r = .tup [.agg c.cells, iI x]
theorem l25Base_ok (B : Nat) : Rd B 93 [] BaseQ := by
  intro id s H0 H hs o
  refine c93p (by simp) fun _ => ?_
  unfold s93p
  (try simp only [go_sem, ↓reduceIte, reduceEqDiff, reduceAdd, reduceMul, reduceLeDiff, reduceLT])
  refine newRef_own o fun id2 H o => ?_
  (try simp only [go_sem, ↓reduceIte, reduceEqDiff, reduceAdd, reduceMul, reduceLeDiff, reduceLT])
  refine (l02Draw_ok B 4 12).go hs o.swap fun r s H _ ⟨c, e⟩ hs o => ?_
  subst e
  (try simp only [go_sem, ↓reduceIte, reduceEqDiff, reduceAdd, reduceMul, reduceLeDiff, reduceLT])
  refine newRef_own o fun id4 H o => ?_
  (try simp only [go_sem, ↓reduceIte, reduceEqDiff, reduceAdd, reduceMul, reduceLeDiff, reduceLT])
  refine st_cells o (by simp) (by (try simp only [go_sem]); (try simp)) (by first | (simp only [go_sem]; done) | ((try simp only [go_sem]); simp [AV.one, one_mL])) fun H o => ?_
  simp only [wr_cons, wr_nil, List.set_cons_zero, List.set_cons_succ] at o
  (try simp only [go_sem, ↓reduceIte, reduceEqDiff, reduceAdd, reduceMul, reduceLeDiff, reduceLT])
  refine (l01Next_ok B 16).go hs o.swap fun r s H _ ⟨v, e, _⟩ hs o => ?_
  subst e
  (try simp only [go_sem, ↓reduceIte, reduceEqDiff, reduceAdd, reduceMul, reduceLeDiff, reduceLT])
  refine ⟨fun h1 => At.mk ?_, fun h1 => At.mk ?_⟩
  focus
    (try simp only [go_sem, ↓reduceIte, reduceEqDiff, reduceAdd, reduceMul, reduceLeDiff, reduceLT])
    refine (l02Draw_ok B 8 30).go hs o fun r s H _ ⟨c2, e⟩ hs o => ?_
    subst e
    (try simp only [go_sem, ↓reduceIte, reduceEqDiff, reduceAdd, reduceMul, reduceLeDiff, reduceLT])
    refine st_cells o.swap (by simp) (by (try simp only [go_sem]); (try simp)) (by first | (simp only [go_sem]; done) | ((try simp only [go_sem]); simp [AV.one, one_mL])) fun H o => ?_
    simp only [wr_cons, wr_nil, List.set_cons_zero, List.set_cons_succ] at o
    have o := o.swap
    obtain ⟨c, rfl⟩ : ∃ c, c = c2 := ⟨_, rfl⟩
  all_goals
    (try simp only [go_sem, ↓reduceIte, reduceEqDiff, reduceAdd, reduceMul, reduceLeDiff, reduceLT])
    refine ⟨⟨_, _, o.tl.h0⟩, rd_celln o.tl (by simp) ?_⟩
    (try simp only [go_sem, ↓reduceIte, reduceEqDiff, reduceAdd, reduceMul, reduceLeDiff, reduceLT])
    refine ⟨⟨_, _, o.tl.h0⟩, rd_cells o.tl (by simp) ?_⟩
    (try simp only [go_sem, ↓reduceIte, reduceEqDiff, reduceAdd, reduceMul, reduceLeDiff, reduceLT])
    refine (l02Number_ok B _).goZ hs o fun r s H _ ⟨v, e⟩ hs o hz => ⟨hz, ?_⟩
    subst e
    (try simp only [go_sem, ↓reduceIte, reduceEqDiff, reduceAdd, reduceMul, reduceLeDiff, reduceLT])
    refine st_cells (o.pull [_, _]) (by simp) (by (try simp only [go_sem]); (try simp)) (by first | (simp only [go_sem]; done) | ((try simp only [go_sem]); simp [AV.one, one_mL])) fun H o => ?_
    simp only [wr_cons, wr_nil, List.set_cons_zero, List.set_cons_succ] at o
    (try simp only [go_sem, ↓reduceIte, reduceEqDiff, reduceAdd, reduceMul, reduceLeDiff, reduceLT])
    have hr2 := o.rc 5 0 (by simp)
    simp only [List.drop_zero] at hr2
    rw [hr2]
    (try simp only [go_sem, ↓reduceIte, reduceEqDiff, reduceAdd, reduceMul, reduceLeDiff, reduceLT])
    exact src_ret ⟨c, v, rfl⟩ hs o.swap
def DrawQ (r : AV) : Prop := ∃ (c : Cat) (x : Int) (l m : List Int), r = .tup [.agg c.cells, iI x, iL l, iL m]
theorem drawImply_ok (B : Nat) (code : List UInt8) : Rets B 27 [mL iB code] DrawQ := by
  intro H0
  refine c27p (by simp) fun _ => ?_
  unfold s27p
  (try simp only [go_sem, ↓reduceIte, reduceEqDiff, reduceAdd, reduceMul, reduceLeDiff, reduceLT])
  have o : Owns H0 H0 [] := .nil _
  refine newRef_own o fun id2 H o => ?_
  (try simp only [go_sem, ↓reduceIte, reduceEqDiff, reduceAdd, reduceMul, reduceLeDiff, reduceLT])
  refine (l01From_ok B code _).mono' fun r H _ ⟨id, s, e, hs, o2⟩ => ?_
  subst e
  have o : Owns H0 H [(id, s.obj), (id2, _)] := o.trans o2
  (try simp only [go_sem, ↓reduceIte, reduceEqDiff, reduceAdd, reduceMul, reduceLeDiff, reduceLT])
  refine (l25Base_ok B).go hs o fun r s H _ ⟨c, x, e⟩ hs o => ?_
  subst e
  (try simp only [go_sem, ↓reduceIte, reduceEqDiff, reduceAdd, reduceMul, reduceLeDiff, reduceLT])
  refine newRef_own o fun id7 H o => ?_
  (try simp only [go_sem, ↓reduceIte, reduceEqDiff, reduceAdd, reduceMul, reduceLeDiff, reduceLT])
  refine st_cells o (by simp) (by (try simp only [go_sem]); (try simp)) (by first | (simp only [go_sem]; done) | ((try simp only [go_sem]); simp [AV.one, one_mL])) fun H o => ?_
  simp only [wr_cons, wr_nil, List.set_cons_zero, List.set_cons_succ] at o
  (try simp only [go_sem, ↓reduceIte, reduceEqDiff, reduceAdd, reduceMul, reduceLeDiff, reduceLT])
  refine rd_celln o (by simp) ?_
  (try simp only [go_sem, ↓reduceIte, reduceEqDiff, reduceAdd, reduceMul, reduceLeDiff, reduceLT])
  refine (l25List_ok B c x).go hs o.swap fun r s H _ ⟨l, e⟩ hs o => ?_
  subst e
  (try simp only [go_sem, ↓reduceIte, reduceEqDiff, reduceAdd, reduceMul, reduceLeDiff, reduceLT])
  refine ⟨⟨_, _, o.tl.h0⟩, rd_celln o.tl (by simp) ?_⟩
  (try simp only [go_sem, ↓reduceIte, reduceEqDiff, reduceAdd, reduceMul, reduceLeDiff, reduceLT])
  refine ⟨⟨_, _, o.tl.h0⟩, rd_celln o.tl (by simp) ?_⟩
  (try simp only [go_sem, ↓reduceIte, reduceEqDiff, reduceAdd, reduceMul, reduceLeDiff, reduceLT])
  refine (l25List_ok B c x).goZ hs o fun r s H _ ⟨m, e⟩ hs o hz => ⟨hz, ?_⟩
  subst e
  (try simp only [go_sem, ↓reduceIte, reduceEqDiff, reduceAdd, reduceMul, reduceLeDiff, reduceLT])
  refine st_cells (o.pull [_, _]) (by simp) (by (try simp only [go_sem]); (try simp)) (by first | (simp only [go_sem]; done) | ((try simp only [go_sem]); simp [AV.one, one_mL])) fun H o => ?_
  simp only [wr_cons, wr_nil, List.set_cons_zero, List.set_cons_succ] at o
  (try simp only [go_sem, ↓reduceIte, reduceEqDiff, reduceAdd, reduceMul, reduceLeDiff, reduceLT])
  have hr2 := o.rc 5 0 (by simp)
  simp only [List.drop_zero] at hr2
  rw [hr2]
  (try simp only [go_sem, ↓reduceIte, reduceEqDiff, reduceAdd, reduceMul, reduceLeDiff, reduceLT])
  exact rets_ret ⟨c, x, l, m, rfl⟩ o.sub
end Go.Proofs.Shf
namespace Go.AW
end Go.AW
namespace Go.Proofs.Shf
open Go.AW Go.Proofs Go.Shf
theorem take_succ_getD {α : Type} [Inhabited α] (l : List α) {k : Nat} (hk : k < l.length) : l.take (k + 1) = l.take k ++ [l.getD k default] := by
  have hN : l[k] = l.getD k default := by simp [List.getD_eq_getElem?_getD, hk]
  rw [← hN]; exact (List.take_append_getElem hk).symm
end Go.Proofs.Shf
namespace Go.Shf
open Go.AW
end Go.Shf
namespace Go.Proofs.Shf
open Go.AW Go.Proofs Go.Shf
end Go.Proofs.Shf
namespace Go.Shf
open Go.AW Go.Proofs.Shf
instance : One iB := ⟨fun _ => rfl, fun _ => rfl⟩
def keyB (L : List (List Int)) : List Int := L.flatMap fun l => l.map IntKind.u8.wrap ++ [255]
def keyS (L : List (List Int)) : List UInt8 := (keyB L).map fun n => UInt8.ofNat n.toNat
def plS (L : List (List Int)) : Nat → List AV × List AV
  | 0 => ([], [])
  | k + 1 => mput (.str (keyS [L.getD k default])) (iI k) (plS L k).1 (plS L k).2
end Go.Shf
namespace Go.Proofs.Shf
open Go.AW Go.Proofs Go.Shf
end Go.Proofs.Shf
namespace Go.Shf
open Go.AW
structure Cov where
  shape : Cat
  sizes : List Int
  pulls : List (List Int)
  sieves : List (List (List Int))
  marks : List (List Bool)
@[go_sem] def Cov.cls (v : Cov) : List AV := [iI v.shape.objs, iL v.shape.frm, iL v.shape.to, iL v.shape.idn, iLL v.shape.comp, iL v.sizes, iLL v.pulls, iLLL v.sieves]
@[go_sem] def Cov.cells (v : Cov) (cnt : AV) : List AV := [.ptr v.cls, .ptr v.shape.cells, mL (mL AV.bool) v.marks, cnt]
end Go.Shf
namespace Go.Proofs.Shf
open Go.AW Go.Proofs Go.Shf
end Go.Proofs.Shf
namespace Go.Shf
open Go.AW
end Go.Shf
namespace Go.AW
end Go.AW
namespace Go.Shf
open Go.AW
def plE (L : List (List Int)) : AV := .imap (plS L L.length).1 (plS L L.length).2
instance : One plE := ⟨fun _ => rfl, fun _ => rfl⟩
end Go.Shf
namespace Go.Proofs.Shf
open Go.AW Go.Proofs Go.Shf
@[go_sem] noncomputable def stepVal (f : SF) (V : List (List Int)) : AV := .ptr [.ptr f.cells, iI f.shape.objs, iL f.shape.frm, iL f.shape.to, iL f.shape.idn, iLL f.shape.comp, iL (stepSizes f V), iLL (stepActs f V), iLL V, iLLL (famsOf f V), mL plE (famsOf f V)]
end Go.Proofs.Shf
namespace Go.Shf
open Go.AW
end Go.Shf
namespace Go.Proofs.Shf
open Go.AW Go.Proofs Go.Shf
end Go.Proofs.Shf
namespace Go.Shf
open Go.AW
@[go_sem] def clsCells (c : Cat) (S : List (List (List Int))) (sz : AV) (pl : AV) : List AV := [iI c.objs, iL c.frm, iL c.to, iL c.idn, iLL c.comp, sz, pl, iLLL S]
end Go.Shf
namespace Go.Proofs.Shf
open Go.AW Go.Proofs Go.Shf
end Go.Proofs.Shf
