/- Contracts, part 6. -/
import Derived.Test.YtllfbkdekhemeaaGreatF5
import Derived.WalkKit
import Derived.Laws.LoneSync
set_option linter.unusedVariables false
set_option linter.unusedSimpArgs false
set_option linter.unusedSectionVars false
open Nat (reduceEqDiff reduceAdd reduceMul reduceLeDiff reduceLT)
namespace Go.Proofs.Shf
open Go.AW Go.Proofs Go.Shf
theorem libSorts : LibSorts := ⟨⟨_, Tryz.func211, by kernel_rfl, by kernel_rfl⟩, fun S _ h => lib_sort S (by omega)⟩
theorem nlsW_mL {α : Type} (f : α → AV) (neg : Bool) (l : List α) (K : Kont) (H : Heap) : nlsW neg (some (mL f l)) K H = ((l = [] → ∀ b, K (.bool b) H) ∧ (l ≠ [] → K (.bool neg) H)) := by
 simp [nlsW, mL]
theorem cloneB_ok (B : Nat) (l : List Bool) : Pur Tryz.prog B 198 [mL AV.bool l] (mL AV.bool l) := by
 refine ⟨fun H0 => c198 (by simp) fun ⟨hf, _⟩ => ?_⟩; have hl := fine_mL_le hf; unfold s198; simp only [go_sem, reduceAdd, nlsW_mL]; refine ⟨fun e b => ?_, fun e => ?_⟩
 ·subst e; cases b
  ·simp only [go_sem]; refine new_list AV.bool (.nil _) fun id H o => ?_; simp only [go_sem]; refine app_list (f := AV.bool) (r := []) o rfl (by simp [maxL]) fun id H o => ?_; simp only [go_sem]; refine fz_own o rfl fun H o => ?_; simp only [go_sem]; exact pure_ret rfl o.sub
  ·simp only [go_sem]; exact pure_ret rfl (.refl _)
 ·skip; refine new_list AV.bool (.nil _) fun id H o => ?_; simp only [go_sem]; refine app_list (f := AV.bool) o rfl (by simpa using hl) fun id H o => ?_; simp only [go_sem]; refine fz_own o rfl fun H o => ?_; simp only [go_sem]; exact pure_ret rfl o.sub
theorem isGreatest_ok (B : Nat) (c : Cat) (s : List Int) (x : Int) (hx : 0 ≤ x ∧ x.toNat < c.idn.length) : Pur Tryz.prog B 249 [iL s, .ptr c.cells, .int .i64 x] (.bool (dec (ix c.idn x ∈ s))) := by
 refine ⟨fun H0 => c249 (by simp) fun _ => ?_⟩; unfold s249; simp only [go_sem, reduceAdd, reduceLeDiff]; refine ⟨hx, ?_⟩; refine (has_ok B s (ix c.idn x)).go fun _ => ?_; simp only [go_sem]; exact pure_ret rfl (.refl _)
theorem asOk : AsOk Tryz.prog 134 256 := fun _ _ _ => by kernel_rfl
theorem methOk : Meth Tryz.prog 134 Go.AW.Z.mthName 249 := fun _ _ => by kernel_rfl
theorem all_ok (B : Nat) (c : Cat) (s : List Int) (x : Int) (hx : 0 ≤ x ∧ x.toNat < c.idn.length) : Pur Tryz.prog B 205 [.ptr c.cells, .int .i64 x, .ifc 134 (iL s)] (.bool (dec (ix c.idn x ∈ s))) := by
 refine ⟨fun H0 => c205 (by simp) fun _ => ?_⟩; unfold s205; simp only [go_sem, reduceAdd, reduceLT]; refine ⟨asOk, ?_⟩; refine ⟨249, methOk, ?_⟩; refine (isGreatest_ok B c s x hx).go fun _ => ?_; simp only [go_sem]; exact pure_ret rfl (.refl _)
end Go.Proofs.Shf
namespace Go.Shf
open Go.AW
theorem top_iff {c : Cat} (hc : c.Is) {x : Nat} (hx : x < c.objs.toNat) {s : List Int} (hs : c.Sieve x s) : ix c.idn x ∈ s ↔ s = outs c x := by
 have ho := hc.1.o; have hi := hc.1.idArr (x := (x : Int)) (by omega); have hos := outs_sieve hc.1 (x : Int)
 constructor
 ·intro h; have hsub : ∀ a, a ∈ outs c x → a ∈ s := fun a ha => by
   obtain ⟨a0, a1, a2⟩ := mem_outs.mp ha; have h1 := hs.cls _ h a.toNat a1 (by rw [hi.2.2, ← a2]; rfl); have h2 := hc.idl (f := a) ⟨a0, a1⟩; rw [a2] at h2; have e : (ix c.comp (ix c.idn (x : Int))).getD a.toNat default = a := h2; rw [e] at h1; exact h1
  exact rising_ext hs.ris hos.ris fun a => ⟨fun ha => mem_outs.mpr ⟨(hs.ran a ha).1, by have := hs.ran a ha; omega, hs.src a ha⟩, hsub a⟩
 ·rintro rfl; exact mem_outs.mpr ⟨hi.1.1, hi.1.2, hi.2.1⟩
end Go.Shf
namespace Go.Proofs.Shf
open Go.AW Go.Proofs Go.Shf
theorem tops_ok (B : Nat) (c : Cat) (L : List (List (List Int))) (t : TabOk c L) (sz pl : AV) : Pur Tryz.prog B 197 [.ptr (clsCells c L sz pl)] (iL (topsOf c L)) := by
 refine ⟨fun H0 => c197 (by simp) fun hfi => ?_⟩; have hob := t.is.1.o; have hL := t.len; have hil := t.is.1.il; unfold s197; simp only [go_sem, reduceAdd]; refine newBuf_own (.nil _) fun id3 H o => ?_; simp only [go_sem, reduceAdd, reduceLeDiff]; refine awp_for [0, 12, 13] (G := Nat) (fun x g => [(3, some (.buf g ((topsOf c L).take x).length)), (14, some (.int .i64 (x : Int)))])
  (fun x g H => Owns H0 H [(g, .cells 1 (((topsOf c L).take x).map iI) 0)]) L.length id3 o rfl ?_
 clear o; rintro x id3 H hx o; replace o : Owns H0 H [(id3, .cells 1 (((topsOf c L).take x).map iI) 0)] := o; simp only [go_sem]; refine ⟨fun h1 => At.mk ?_, fun h1 => At.mk ?_⟩
 ·have h1p := of_decide h1; have w := wsucc (k := x) (by omega); have hxo : x < c.objs.toNat := by omega
  have htp := t.top h1p; have hall := t.all x h1p; have hfew := t.few x h1p; have hts := take_succ_getD (topsOf c L) (k := x) (by rw [tops_len]; exact h1p); have htl : ((topsOf c L).take x).length = x := by rw [List.length_take, tops_len]; omega
  generalize htv : (topsOf c L).getD x default = tv at *; simp only [go_sem]; refine ⟨h1p, ?_⟩; generalize hS : L.getD x default = S at *; have hnd := hall.nodup; refine awp_for [0, 4, 12, 13, 14, 19, 20] (G := Nat × List Int) (fun i g => [(3, some (.buf g.1 g.2.length)), (21, some (.int .i64 (i : Int)))])
   (fun i g H => g.2 = (topsOf c L).take x ++ (if tv < i then [tv] else []) ∧ Owns H0 H [(g.1, .cells 1 (g.2.map iI) 0)]) S.length (id3, (topsOf c L).take x) ⟨by rw [if_neg (by omega)]; simp, o⟩ rfl ?_
  clear o; rintro i ⟨id3, A⟩ H hi ⟨hA, o⟩; replace hA : A = (topsOf c L).take x ++ (if tv < i then [tv] else []) := hA; replace o : Owns H0 H [(id3, .cells 1 (A.map iI) 0)] := o; simp only [go_sem]; refine ⟨fun h2 => At.mk ?_, fun h2 => At.mk ?_⟩
  ·have h2p := of_decide h2; have w2 := wsucc (k := i) (by omega); simp only [go_sem, reduceAdd, reduceLeDiff]; refine ⟨h2p, ?_⟩; refine (all_ok B c (S.getD i default) x ⟨by omega, by omega⟩).go fun _ => ?_; have hsv : c.Sieve x (S.getD i default) := (hall.mem _).mp (mem_getD.mpr ⟨i, h2p, rfl⟩); have hiff := top_iff t.is hxo hsv; by_cases ht : (i : Int) = tv
   ·subst ht; have he : S.getD i default = outs c x := by have := htp.2; rwa [ix_nat] at this
    rw [dec_t (hiff.mpr he)]; have hA' : A = (topsOf c L).take x := by rw [hA, if_neg (by omega)]; simp
    simp only [go_sem, reduceAdd]; refine app_own (f := iI) (i : Int) o rfl rfl (by rw [hA', htl]; simp only [maxL]; omega) fun id3 H o => ?_; simp only [go_sem, w2]; exact for_next (id3, A ++ [(i : Int)]) h2p ⟨by simp only; rw [hA', if_pos (by omega)], o⟩ rfl
   ·have hne : ¬ S.getD i default = outs c x := fun e => by
     apply ht; have h3 : S.getD tv.toNat default = S.getD i default := by rw [e, ← htp.2]; rfl
     have hlt := htp.1.2; have := (List.getElem_inj hnd (h₀ := hlt) (h₁ := h2p)).mp (by simpa [gQ, hlt, h2p] using h3); omega
    rw [dec_f (fun e => hne (hiff.mp e))]; simp only [go_sem, w2]; refine for_next (id3, A) h2p ⟨?_, o⟩ rfl; simp only; rw [hA]; by_cases e : tv < i
    ·rw [if_pos e, if_pos (by omega)]
    ·rw [if_neg e, if_neg (by omega)]
  ·have h2p := of_ndecide h2; obtain rfl : i = S.length := by omega
   rw [if_pos (by omega), ← hts] at hA; subst hA; simp only [go_sem, w]; exact for_next id3 h1p o rfl
 ·have h1p := of_ndecide h1; obtain rfl : x = L.length := by omega
  rw [List.take_of_length_le (by rw [tops_len]; omega)] at o ⊢; simp only [go_sem]; refine fz_own o rfl fun H o => ?_; simp only [go_sem]; exact pure_ret rfl o.sub
theorem HdL.get {l : List Int} {k m : Int} (h : HdL l k m) : m = k + l.length ∧ ∀ i : Nat, i < l.length → l.getD i default = k + i := by
 induction h with
 | nil k => exact ⟨by simp, fun i hi => by simp at hi⟩
 | cons h _ ih =>
  obtain ⟨rfl, rfl⟩ := h; refine ⟨by rw [ih.1, List.length_cons]; omega, fun i hi => ?_⟩; cases i with
  | zero => simp
  | succ i => rw [List.getD_cons_succ, ih.2 i (by simpa using hi)]; omega
theorem HdL.mk : ∀ {l : List Int} {k : Int}, (∀ i : Nat, i < l.length → l.getD i default = k + i) → HdL l k (k + l.length)
 | [], k, _ => by simp; exact .nil k
 | a :: r, k, h => by
  have h0 := h 0 (by simp); simp at h0; have := HdL.mk (l := r) (k := k + 1) fun i hi => by
   have := h (i + 1) (by simpa using hi); rw [List.getD_cons_succ] at this; rw [this]; omega
  have e : k + ((a :: r).length : Int) = k + 1 + r.length := by rw [List.length_cons]; omega
  rw [e]; exact .cons ⟨h0, rfl⟩ this
end Go.Proofs.Shf
namespace Go.AW
open Go.Proofs Go.Shf Go.Proofs.Shf
theorem LsG.lenE {α : Type} {O : Ob → AV → α → Prop} {p : Ob} {X : AV} {A : List α} (h : LsG O p X A) : lenE (some X) = some (True, .int .i64 A.length) := by
 rcases h with ⟨_, rfl, rfl⟩ | ⟨id, Xs, o, _, rfl, hr⟩
 ·rfl
 ·simp [Go.AW.lenE, hr.len]
end Go.AW
namespace Go.Proofs.Shf
open Go.AW Go.Proofs Go.Shf
end Go.Proofs.Shf
namespace Go.AW
open Go.Proofs Go.Shf Go.Proofs.Shf
theorem CallH.of_bd {P : Program} {B : Nat} {f : FuncId} {args : List AV} {H : Heap} {K : Kont} (he : Enters P f)
  (h : (∀ id sz cs f, H.get id = some (.cells sz cs f) → cs.length ≤ maxL) → CallH P B f args H K) : CallH P B f args H K := by
 refine ⟨he, fun g w vs hW hv => (h fun id sz cs fr hg => ?_).2 g w vs hW hv⟩; obtain ⟨p, hp, hr⟩ := hW.ob id _ hg; cases p with
 | nil => simp only [ObjRel] at hr; rw [hr.1]; simp
 | mp b => simp [ObjRel] at hr
 | blk b cap => simp only [ObjRel] at hr; exact hr.2.2.1
end Go.AW
namespace Go.Proofs.Shf
open Go.AW Go.Proofs Go.Shf
end Go.Proofs.Shf
namespace Go.AW
open Go.Proofs Go.Shf Go.Proofs.Shf
theorem LsG.bd {α : Type} {O : Ob → AV → α → Prop} {p l : Ob} {X : AV} {A : List α} {H0 H : Heap} (h : LsG O p X A) (o : Owns H0 H (p ++ l)) (hb : ∀ id sz cs f, H.get id = some (.cells sz cs f) → cs.length ≤ maxL) : A.length ≤ maxL := by
 rcases h with ⟨_, _, rfl⟩ | ⟨id, Xs, q, rfl, _, hr⟩
 ·simp
 ·rw [← hr.len]; exact hb id 1 Xs 0 o.h0
end Go.AW
namespace Go.Proofs.Shf
open Go.AW Go.Proofs Go.Shf
end Go.Proofs.Shf
namespace Go.AW
open Go.Proofs Go.Shf Go.Proofs.Shf
theorem LsG.pos {α : Type} {O : Ob → AV → α → Prop} {p : Ob} {X : AV} {A : List α} (h : LsG O p X A) {i : Nat} (hi : i < A.length) : ∃ id Xs o, p = (id, .cells 1 Xs 0) :: o ∧ X = .buf id Xs.length ∧ RowsG O Xs A o := by
 rcases h with ⟨_, _, rfl⟩ | h
 ·simp at hi
 ·exact h
end Go.AW
namespace Go.Proofs.Shf
open Go.AW Go.Proofs Go.Shf
structure Helds {α : Type} (P : Program) (B : Nat) (fn : FuncId) (f : α → AV) (Hd : α → Int → Int → Prop) : Prop where
 run : ∀ (a : α) (k m : Int), Hd a k m → 0 ≤ k → m ≤ 1125899906842624 → Pur P B fn [f a, .int .i64 k] (.int .i64 m)
theorem heldInt64S_ok (B : Nat) : Helds Tryz.prog B 61 iL HdL := by
 refine ⟨fun a k m hd h0 h1 => ⟨fun H0 => c61 (by simp) fun _ => ?_⟩⟩; obtain ⟨e, hd2⟩ := HdL.get hd; subst e; unfold s61; simp only [go_sem, reduceAdd]; refine awp_for [0] (G := Unit) (fun i _ => [(1, some (.int .i64 (k + i))), (5, some (.int .i64 (i : Int)))]) (fun i _ H => H = H0) a.length () rfl (by simp; rfl) ?_; rintro i _ H hi rfl; simp only [go_sem]; refine ⟨fun h2 => At.mk ?_, fun h2 => At.mk ?_⟩
 ·have h2p := of_decide h2; have w := wsucc (k := i) (by omega); have w2 : IntKind.i64.wrap (k + i + 1) = k + ((i + 1 : Nat) : Int) := by rw [wrap_i64 (by omega) (by omega)]; omega
  have hv := hd2 i h2p; simp only [go_sem]; refine ⟨h2p, ?_⟩; refine ⟨fun e => ?_, fun _ => At.mk ?_⟩
  ·exfalso; rw [hv] at e; simp at e
  simp only [go_sem, w, w2]; exact for_next () h2p rfl rfl
 ·have h2p := of_ndecide h2; obtain rfl : i = a.length := by omega
  simp only [go_sem]; exact pure_ret rfl (.refl _)
theorem heldInt64SS_ok (B : Nat) : Helds Tryz.prog B 62 iLL HdLL := by
 refine ⟨fun a k m hd h0 h1 => ⟨fun H0 => c62 (by simp) fun ⟨hf, _⟩ => ?_⟩⟩; have hl := fine_mL_le hf; simp only [maxL] at hl; unfold s62; simp only [go_sem, reduceAdd]; refine awp_for [0] (G := Int) (fun i u => [(1, some (.int .i64 u)), (5, some (.int .i64 (i : Int)))]) (fun i u H => H = H0 ∧ k ≤ u ∧ HdLL (a.drop i) u m) a.length k ⟨rfl, Int.le_refl _, by simpa using hd⟩ rfl ?_; clear hd; rintro i u H hi ⟨rfl, hu, hd⟩; simp only [go_sem]; refine ⟨fun h2 => At.mk ?_, fun h2 => At.mk ?_⟩
 ·have h2p := of_decide h2; have w := wsucc (k := i) (by omega); rw [drop_cons a h2p] at hd; cases hd with
  | cons hx ht =>
   rename_i v; have hle := HdL.le _ _ _ hx; have hle2 := HdLL.le _ _ _ ht; simp only [go_sem]; refine ⟨h2p, ?_⟩; refine ((heldInt64S_ok B).run _ _ _ hx (by omega) (by omega)).go fun _ => ?_; simp only [go_sem]; refine ⟨fun e => ?_, fun _ => At.mk ?_⟩
   ·exfalso; have := of_decide e; omega
   simp only [go_sem, w]; exact for_next v h2p ⟨rfl, by omega, ht⟩ rfl
 ·have h2p := of_ndecide h2; obtain rfl : i = a.length := by omega
  rw [List.drop_length] at hd; cases hd
  simp only [go_sem]; exact pure_ret rfl (.refl _)
theorem heldCategory_ok (B : Nat) : Helds Tryz.prog B 60 (fun c => .agg (Cat.cells c)) HdCat := by
 refine ⟨fun c k m hd h0 h1 => ⟨fun H0 => c60 (by simp) fun _ => ?_⟩⟩; obtain ⟨x, y, z, d1, d2, d3, d4⟩ := hd; have l1 := HdL.le _ _ _ d1; have l2 := HdL.le _ _ _ d2; have l3 := HdL.le _ _ _ d3; have l4 := HdLL.le _ _ _ d4; unfold s60; simp only [go_sem, reduceAdd, reduceLeDiff]; refine ((heldInt64S_ok B).run _ _ _ d1 (by omega) (by omega)).go fun _ => ?_; simp only [go_sem]; refine ⟨fun e => ?_, fun _ => At.mk ?_⟩
 ·exfalso; have := of_decide e; omega
 simp only [go_sem, reduceAdd, reduceLeDiff]; refine ((heldInt64S_ok B).run _ _ _ d2 (by omega) (by omega)).go fun _ => ?_; simp only [go_sem]; refine ⟨fun e => ?_, fun _ => At.mk ?_⟩
 ·exfalso; have := of_decide e; omega
 simp only [go_sem, reduceAdd, reduceLeDiff]; refine ((heldInt64S_ok B).run _ _ _ d3 (by omega) (by omega)).go fun _ => ?_; simp only [go_sem]; refine ⟨fun e => ?_, fun _ => At.mk ?_⟩
 ·exfalso; have := of_decide e; omega
 simp only [go_sem, reduceAdd, reduceLeDiff]; refine ((heldInt64SS_ok B).run _ _ _ d4 (by omega) (by omega)).go fun _ => ?_; simp only [go_sem]; refine ⟨fun e => ?_, fun _ => At.mk ?_⟩
 ·exfalso; have := of_decide e; omega
 simp only [go_sem]; exact pure_ret rfl (.refl _)
theorem heldSetFunctor_ok (B : Nat) : Helds Tryz.prog B 22 (fun c => .agg (SF.cells c)) HdSF := by
 refine ⟨fun c k m hd h0 h1 => ⟨fun H0 => c22 (by simp) fun _ => ?_⟩⟩; obtain ⟨x, y, d1, d2, d3⟩ := hd; have l1 := d1.le; have l2 := HdL.le _ _ _ d2; have l3 := HdLL.le _ _ _ d3; unfold s22; simp only [go_sem, reduceAdd, reduceLeDiff]; refine ((heldCategory_ok B).run c.shape _ _ d1 (by omega) (by omega)).go fun _ => ?_; simp only [go_sem]; refine ⟨fun e => ?_, fun _ => At.mk ?_⟩
 ·exfalso; have := of_decide e; omega
 simp only [go_sem, reduceAdd, reduceLeDiff]; refine ((heldInt64S_ok B).run _ _ _ d2 (by omega) (by omega)).go fun _ => ?_; simp only [go_sem]; refine ⟨fun e => ?_, fun _ => At.mk ?_⟩
 ·exfalso; have := of_decide e; omega
 simp only [go_sem, reduceAdd, reduceLeDiff]; refine ((heldInt64SS_ok B).run _ _ _ d3 (by omega) (by omega)).go fun _ => ?_; simp only [go_sem]; refine ⟨fun e => ?_, fun _ => At.mk ?_⟩
 ·exfalso; have := of_decide e; omega
 simp only [go_sem]; exact pure_ret rfl (.refl _)
theorem heldSetMap_ok (B : Nat) : Helds Tryz.prog B 29 (fun c => .agg (SM.cells c)) HdSM := by
 refine ⟨fun c k m hd h0 h1 => ⟨fun H0 => c29 (by simp) fun _ => ?_⟩⟩; obtain ⟨x, y, d1, d2, d3⟩ := hd; have l1 := d1.le; have l2 := d2.le; have l3 := HdLL.le _ _ _ d3; unfold s29; simp only [go_sem, reduceAdd, reduceLeDiff]; refine ((heldSetFunctor_ok B).run c.src _ _ d1 (by omega) (by omega)).go fun _ => ?_; simp only [go_sem]; refine ⟨fun e => ?_, fun _ => At.mk ?_⟩
 ·exfalso; have := of_decide e; omega
 simp only [go_sem, reduceAdd, reduceLeDiff]; refine ((heldSetFunctor_ok B).run c.tgt _ _ d2 (by omega) (by omega)).go fun _ => ?_; simp only [go_sem]; refine ⟨fun e => ?_, fun _ => At.mk ?_⟩
 ·exfalso; have := of_decide e; omega
 simp only [go_sem, reduceAdd, reduceLeDiff]; refine ((heldInt64SS_ok B).run _ _ _ d3 (by omega) (by omega)).go fun _ => ?_; simp only [go_sem]; refine ⟨fun e => ?_, fun _ => At.mk ?_⟩
 ·exfalso; have := of_decide e; omega
 simp only [go_sem]; exact pure_ret rfl (.refl _)
theorem set_self {l : List AV} {i : Nat} (h : i < l.length) : l.set i (l.getD i nv) = l := by
 apply List.ext_getElem?; intro j; by_cases e : j = i
 ·subst e; simp [gQ, h]
 ·rw [List.getElem?_set_ne (by omega)]
theorem take_set_succ {α : Type} {l : List α} {i : Nat} (h : i < l.length) (x : α) : (l.set i x).take (i + 1) = l.take i ++ [x] := by
 rw [List.take_set, List.take_add_one, List.getElem?_eq_getElem h]; simp only [Option.toList]; rw [List.set_append_right _ _ (by rw [List.length_take]; omega)]; simp [Nat.min_eq_left (Nat.le_of_lt h)]
theorem drop_set_succ {α : Type} {l : List α} {i : Nat} (x : α) : (l.set i x).drop (i + 1) = l.drop (i + 1) := by
 rw [List.drop_set]; simp
theorem sum_take_succ {α : Type} [Inhabited α] (sz : α → Nat) (l : List α) {i : Nat} (h : i < l.length) : ((l.take (i + 1)).map sz).sum = ((l.take i).map sz).sum + sz (l.getD i default) := by
 rw [take_map_succ l sz h, List.sum_append]; simp
theorem sum_take_le {α : Type} (sz : α → Nat) (l : List α) (i : Nat) : ((l.take i).map sz).sum ≤ (l.map sz).sum := by
 conv => rhs; rw [← List.take_append_drop i l, List.map_append, List.sum_append]
 omega
end Go.Proofs.Shf
namespace Go.AW
open Go.Proofs Go.Shf Go.Proofs.Shf
theorem Owns.row {α : Type} [Inhabited α] {O : Ob → AV → α → Prop} {H0 H : Heap} {l q : Ob} {id : Nat} {Xs : List AV} {A : List α} (o : Owns H0 H (((id, .cells 1 Xs 0) :: q) ++ l)) (hr : RowsG O Xs A q) {i : Nat} (hi : i < Xs.length) :
  ∃ p r, Owns H0 H (p ++ ((id, .cells 1 Xs 0) :: (r ++ l))) ∧ O p (Xs.getD i nv) (A.getD i default) ∧
   ∀ a' p' H', O p' (Xs.getD i nv) a' → Owns H0 H' (p' ++ ((id, .cells 1 Xs 0) :: (r ++ l))) → ∃ q', RowsG O Xs (A.set i a') q' ∧ Owns H0 H' (((id, .cells 1 Xs 0) :: q') ++ l) := by
 obtain ⟨p, r, h1, h2, h3⟩ := hr.split i hi; refine ⟨p, r, o.perm ?_, h2, fun a' p' H' hO o' => ?_⟩
 ·refine List.Perm.trans ?_ (List.perm_middle (a := (id, MObj.cells 1 Xs 0)) (l₁ := p) (l₂ := r ++ l)).symm; refine List.Perm.cons _ ?_; rw [← List.append_assoc]; exact List.Perm.append_right l h1
 ·obtain ⟨q', k1, k2⟩ := h3 _ _ _ hO; rw [set_self hi] at k1; refine ⟨q', k1, o'.perm ?_⟩; refine List.Perm.trans (List.perm_middle (a := (id, MObj.cells 1 Xs 0)) (l₁ := p') (l₂ := r ++ l)) ?_; refine List.Perm.cons _ ?_; rw [← List.append_assoc]; exact List.Perm.append_right l k2.symm
end Go.AW
namespace Go.Proofs.Shf
open Go.AW Go.Proofs Go.Shf
theorem markInt64S_ok (B : Nat) : Marks Tryz.prog B 58 OL szL HdL := by
 refine ⟨fun p X a H0 H l k hO o h0 h1 => c58 (by simp) fun _ => ?_⟩; simp only [szL] at h1 ⊢; unfold s58; simp only [go_sem, reduceAdd]; refine awp_for [0] (G := List Int × Ob) (fun i _ => [(1, some (.int .i64 (k + i))), (5, some (.int .i64 (i : Int)))])
  (fun i g H => OL g.2 X g.1 ∧ Owns H0 H (g.2 ++ l) ∧ g.1.length = a.length ∧ ∀ j, j < i → g.1.getD j default = k + j) a.length (a, p) ⟨hO, o, rfl, by simp⟩ (by simp; rfl) ?_
 clear hO o; rintro i ⟨A, p⟩ H hi ⟨hO, o, hA, hall⟩; replace hO : OL p X A := hO; replace o : Owns H0 H (p ++ l) := o; replace hA : A.length = a.length := hA; replace hall : ∀ j, j < i → A.getD j default = k + j := hall; have hlen := hO.lenE; rw [hA] at hlen; simp only [go_sem, hlen]; refine ⟨fun h2 => At.mk ?_, fun h2 => At.mk ?_⟩
 ·have h2p := of_decide h2; have w := wsucc (k := i) (by omega); have w2 : IntKind.i64.wrap (k + i + 1) = k + ((i + 1 : Nat) : Int) := by rw [wrap_i64 (by omega) (by omega)]; omega
  obtain ⟨id, Xs, q, rfl, hX, hr⟩ := hO.pos (i := i) (by omega); have hXl := hr.len; obtain ⟨rfl, rfl⟩ := hr.ints; simp only [List.length_map] at hX; rw [hX]; simp only [go_sem]; refine ⟨by omega, ?_⟩; refine set_own (f := iI) (k + i) o rfl (by omega) fun H o => ?_; simp only [go_sem, w, w2]; refine for_next (A.set i (k + i), [(id, .cells 1 ((A.set i (k + i)).map iI) 0)]) h2p ⟨.inr ⟨id, _, [], rfl, by simp, rowsI _⟩, o, by simp [hA], fun j hj => ?_⟩ rfl; by_cases e : j = i
  ·subst e; simp [gQ, show j < A.length by omega]
  ·have := hall j (by omega); rw [gQ, List.getElem?_set_ne (by omega), ← gQ]; exact this
 ·have h2p := of_ndecide h2; obtain rfl : i = a.length := by omega
  simp only [go_sem]; refine ⟨H, .refl H, rfl, A, p, hO, ?_, o⟩; rw [← hA]; exact HdL.mk fun j hj => hall j (by omega)
theorem markInt64SS_ok (B : Nat) : Marks Tryz.prog B 59 OLL szLL HdLL := by
 refine ⟨fun p X a H0 H l k hO o h0 h1 => CallH.of_bd ⟨_, Tryz.func59, by kernel_rfl, by kernel_rfl⟩ fun hbd => c59 (by simp) fun _ => ?_⟩; have hlm := hO.bd o hbd; simp only [maxL] at hlm; simp only [szLL] at h1 ⊢; unfold s59; simp only [go_sem, reduceAdd]; refine awp_for [0] (G := List (List Int) × Ob) (fun i _ => [(1, some (.int .i64 (k + ((a.take i).map szL).sum))), (5, some (.int .i64 (i : Int)))])
  (fun i g H => OLL g.2 X g.1 ∧ Owns H0 H (g.2 ++ l) ∧ g.1.length = a.length ∧ HdLL (g.1.take i) k (k + ((a.take i).map szL).sum) ∧ g.1.drop i = a.drop i) a.length (a, p) ⟨hO, o, rfl, by simp; exact .nil k, rfl⟩ (by simp; rfl) ?_
 clear hO o; rintro i ⟨A, p⟩ H hi ⟨hO, o, hA, hall, hdr⟩; replace hO : OLL p X A := hO; replace o : Owns H0 H (p ++ l) := o; replace hA : A.length = a.length := hA; replace hall : HdLL (A.take i) k (k + ((a.take i).map szL).sum) := hall; replace hdr : A.drop i = a.drop i := hdr; have hlen := hO.lenE; rw [hA] at hlen; simp only [go_sem, hlen]; refine ⟨fun h2 => At.mk ?_, fun h2 => At.mk ?_⟩
 ·have h2p := of_decide h2; have w := wsucc (k := i) (by omega); obtain ⟨id, Xs, q, rfl, hX, hr⟩ := hO.pos (i := i) (by omega); have hXl := hr.len; rw [hX]; have hst := sum_take_succ szL a h2p; have hle := sum_take_le szL a (i + 1); have hai : A.getD i default = a.getD i default := by
   have h3 := congrArg (fun l => l.getD 0 default) hdr; simpa [gQ] using h3
  simp only [go_sem]; refine ⟨by omega, ?_⟩; refine rd_get o.h0 (by omega) ?_; obtain ⟨p, r, o1, hOi, back⟩ := o.row hr (i := i) (by omega); rw [hai] at hOi; simp only [go_sem]; refine (markInt64S_ok B).go hOi o1 (by omega) (by omega) fun a' p' H hO' hd' o' => ?_; obtain ⟨q', hr', o2⟩ := back a' p' H hO' o'; have e2 : k + (((a.take i).map szL).sum : Int) + (szL (a.getD i default) : Int) = k + (((a.take (i + 1)).map szL).sum : Int) := by rw [hst]; omega
  rw [e2] at hd' ⊢; simp only [go_sem, w]; refine for_next (A.set i a', (id, .cells 1 Xs 0) :: q') h2p ⟨.inr ⟨id, Xs, q', rfl, rfl, hr'⟩, o2, by simp [hA], ?_, ?_⟩ rfl
  ·simp only; rw [take_set_succ (by omega)]; exact hall.snoc hd'
  ·simp only; rw [drop_set_succ]; have := congrArg (List.drop 1) hdr; simpa using this
 ·have h2p := of_ndecide h2; obtain rfl : i = a.length := by omega
  rw [List.take_of_length_le (Nat.le_of_eq hA), List.take_length] at hall; simp only [go_sem]; rw [List.take_length]; exact ⟨H, .refl H, rfl, A, p, hO, hall, o⟩
theorem markInt64SSS_ok (B : Nat) : Marks Tryz.prog B 57 OLLL szLLL HdLLL := by
 refine ⟨fun p X a H0 H l k hO o h0 h1 => CallH.of_bd ⟨_, Tryz.func57, by kernel_rfl, by kernel_rfl⟩ fun hbd => c57 (by simp) fun _ => ?_⟩; have hlm := hO.bd o hbd; simp only [maxL] at hlm; simp only [szLLL] at h1 ⊢; unfold s57; simp only [go_sem, reduceAdd]; refine awp_for [0] (G := List (List (List Int)) × Ob) (fun i _ => [(1, some (.int .i64 (k + ((a.take i).map szLL).sum))), (5, some (.int .i64 (i : Int)))])
  (fun i g H => OLLL g.2 X g.1 ∧ Owns H0 H (g.2 ++ l) ∧ g.1.length = a.length ∧ HdLLL (g.1.take i) k (k + ((a.take i).map szLL).sum) ∧ g.1.drop i = a.drop i) a.length (a, p) ⟨hO, o, rfl, by simp; exact .nil k, rfl⟩ (by simp; rfl) ?_
 clear hO o; rintro i ⟨A, p⟩ H hi ⟨hO, o, hA, hall, hdr⟩; replace hO : OLLL p X A := hO; replace o : Owns H0 H (p ++ l) := o; replace hA : A.length = a.length := hA; replace hall : HdLLL (A.take i) k (k + ((a.take i).map szLL).sum) := hall; replace hdr : A.drop i = a.drop i := hdr; have hlen := hO.lenE; rw [hA] at hlen; simp only [go_sem, hlen]; refine ⟨fun h2 => At.mk ?_, fun h2 => At.mk ?_⟩
 ·have h2p := of_decide h2; have w := wsucc (k := i) (by omega); obtain ⟨id, Xs, q, rfl, hX, hr⟩ := hO.pos (i := i) (by omega); have hXl := hr.len; rw [hX]; have hst := sum_take_succ szLL a h2p; have hle := sum_take_le szLL a (i + 1); have hai : A.getD i default = a.getD i default := by
   have h3 := congrArg (fun l => l.getD 0 default) hdr; simpa [gQ] using h3
  simp only [go_sem]; refine ⟨by omega, ?_⟩; refine rd_get o.h0 (by omega) ?_; obtain ⟨p, r, o1, hOi, back⟩ := o.row hr (i := i) (by omega); rw [hai] at hOi; simp only [go_sem]; refine (markInt64SS_ok B).go hOi o1 (by omega) (by omega) fun a' p' H hO' hd' o' => ?_; obtain ⟨q', hr', o2⟩ := back a' p' H hO' o'; have e2 : k + (((a.take i).map szLL).sum : Int) + (szLL (a.getD i default) : Int) = k + (((a.take (i + 1)).map szLL).sum : Int) := by rw [hst]; omega
  rw [e2] at hd' ⊢; simp only [go_sem, w]; refine for_next (A.set i a', (id, .cells 1 Xs 0) :: q') h2p ⟨.inr ⟨id, Xs, q', rfl, rfl, hr'⟩, o2, by simp [hA], ?_, ?_⟩ rfl
  ·simp only; rw [take_set_succ (by omega)]; exact hall.snoc hd'
  ·simp only; rw [drop_set_succ]; have := congrArg (List.drop 1) hdr; simpa using this
 ·have h2p := of_ndecide h2; obtain rfl : i = a.length := by omega
  rw [List.take_of_length_le (Nat.le_of_eq hA), List.take_length] at hall; simp only [go_sem]; rw [List.take_length]; exact ⟨H, .refl H, rfl, A, p, hO, hall, o⟩
end Go.Proofs.Shf
namespace Go.AW
open Go.Proofs Go.Shf Go.Proofs.Shf
theorem Owns.rot {H0 H : Heap} {a b : Ob} (o : Owns H0 H (a ++ b)) : Owns H0 H (b ++ a) := o.perm List.perm_append_comm
end Go.AW
namespace Go.Proofs.Shf
open Go.AW Go.Proofs Go.Shf
theorem markCategory_ok (B : Nat) : Marks Tryz.prog B 56 OCat szCat HdCat := by
 refine ⟨fun p X a H0 H l k hO o h0 h1 => c56 (by simp) fun _ => ?_⟩; obtain ⟨X1, X2, X3, X4, p1, p2, p3, p4, rfl, rfl, q1, q2, q3, q4⟩ := hO; have v1 := q1.one; have v2 := q2.one; have v3 := q3.one; have v4 := q4.one; simp only [szCat] at h1 ⊢; unfold s56; simp only [go_sem, reduceAdd, reduceLeDiff]; refine ⟨⟨v1, v2, v3, v4⟩, ?_⟩; have o : Owns H0 H (p1 ++ (p2 ++ (p3 ++ (p4 ++ l)))) := by simpa using o
 refine (markInt64S_ok B).go q1 o (by omega) (by omega) fun a1 p1 H q1 d1 o => ?_; simp only [go_sem, reduceAdd, reduceLeDiff]; refine (markInt64S_ok B).go q2 (by simpa only [List.append_assoc] using o.rot) (by omega) (by omega) fun a2 p2 H q2 d2 o => ?_; simp only [go_sem, reduceAdd, reduceLeDiff]; refine (markInt64S_ok B).go q3 (by simpa only [List.append_assoc] using o.rot) (by omega) (by omega) fun a3 p3 H q3 d3 o => ?_; simp only [go_sem, reduceAdd, reduceLeDiff]; refine (markInt64SS_ok B).go q4 (by simpa only [List.append_assoc] using o.rot) (by omega) (by omega) fun a4 p4 H q4 d4 o => ?_; simp only [go_sem]; have e : k + (szL a.frm : Int) + (szL a.to : Int) + (szL a.idn : Int) + (szLL a.comp : Int) = k + ((szL a.frm + szL a.to + szL a.idn + szLL a.comp : Nat) : Int) := by omega
 rw [e] at d4 ⊢; have o := o.rot; simp only [List.append_assoc] at o; exact ⟨H, .refl H, rfl, ⟨a.objs, a1, a2, a3, a4⟩, p1 ++ (p2 ++ (p3 ++ p4)), ⟨X1, X2, X3, X4, p1, p2, p3, p4, rfl, rfl, q1, q2, q3, q4⟩, ⟨_, _, _, d1, d2, d3, d4⟩, o.rot⟩
theorem OSF.cat {p : Ob} {X : AV} {f : SF} (h : OSF p X f) : ∃ Xs X5 X6 p1 p2 p3, X = .agg (Xs ++ [X5, X6]) ∧ p = p1 ++ (p2 ++ p3) ∧ Xs.length = 5 ∧ OCat p1 (.agg Xs) f.shape ∧ OL p2 X5 f.sizes ∧ OLL p3 X6 f.acts := by
 obtain ⟨X1, X2, X3, X4, X5, X6, p1, p2, p3, p4, p5, p6, rfl, rfl, q1, q2, q3, q4, q5, q6⟩ := h; exact ⟨[_, X1, X2, X3, X4], X5, X6, p1 ++ (p2 ++ (p3 ++ p4)), p5, p6, rfl, by simp, rfl, ⟨X1, X2, X3, X4, p1, p2, p3, p4, rfl, rfl, q1, q2, q3, q4⟩, q5, q6⟩
theorem OSF.mk {p1 p2 p3 : Ob} {Xs : List AV} {X5 X6 : AV} {c : Cat} {s : List Int} {t : List (List Int)} (h : OCat p1 (.agg Xs) c) (h5 : OL p2 X5 s) (h6 : OLL p3 X6 t) : OSF (p1 ++ (p2 ++ p3)) (.agg (Xs ++ [X5, X6])) ⟨c, s, t⟩ := by
 obtain ⟨X1, X2, X3, X4, p1, p2, p3, p4, e, rfl, q1, q2, q3, q4⟩ := h; injection e with e
 subst e; exact ⟨X1, X2, X3, X4, X5, X6, p1, p2, p3, p4, _, _, rfl, by simp, q1, q2, q3, q4, h5, h6⟩
theorem OTop.cat {p : Ob} {X : AV} {f : Top} (h : OTop p X f) : ∃ Xs X5 p1 p2, X = .agg (Xs ++ [X5]) ∧ p = p1 ++ p2 ∧ Xs.length = 5 ∧ OCat p1 (.agg Xs) f.shape ∧ OLLL p2 X5 f.covers := by
 obtain ⟨X1, X2, X3, X4, X5, p1, p2, p3, p4, p5, rfl, rfl, q1, q2, q3, q4, q5⟩ := h; exact ⟨[_, X1, X2, X3, X4], X5, p1 ++ (p2 ++ (p3 ++ p4)), p5, rfl, by simp, rfl, ⟨X1, X2, X3, X4, p1, p2, p3, p4, rfl, rfl, q1, q2, q3, q4⟩, q5⟩
theorem OTop.mk {p1 p2 : Ob} {Xs : List AV} {X5 : AV} {c : Cat} {t : List (List (List Int))} (h : OCat p1 (.agg Xs) c) (h5 : OLLL p2 X5 t) : OTop (p1 ++ p2) (.agg (Xs ++ [X5])) ⟨c, t⟩ := by
 obtain ⟨X1, X2, X3, X4, p1, p2, p3, p4, e, rfl, q1, q2, q3, q4⟩ := h; injection e with e
 subst e; exact ⟨X1, X2, X3, X4, X5, p1, p2, p3, p4, _, rfl, by simp, q1, q2, q3, q4, h5⟩
theorem OCat.ones {p : Ob} {Xs : List AV} {c : Cat} (h : OCat p (.agg Xs) c) : ∀ x, x ∈ Xs → x.one = true := by
 obtain ⟨X1, X2, X3, X4, p1, p2, p3, p4, e, rfl, q1, q2, q3, q4⟩ := h; injection e with e
 subst e; simp only [memcons, memnil]; exact ⟨rfl, q1.one, q2.one, q3.one, q4.one, trivial⟩
theorem len5 {l : List AV} (h : l.length = 5) : ∃ a b c d e, l = [a, b, c, d, e] := by
 match l, h with
 | [a, b, c, d, e], _ => exact ⟨a, b, c, d, e, rfl⟩
theorem markTopology_ok (B : Nat) : Marks Tryz.prog B 20 OTop szTop HdTop := by
 refine ⟨fun p X a H0 H l k hO o h0 h1 => c20 (by simp) fun _ => ?_⟩; obtain ⟨Xs, X5, p1, p2, rfl, rfl, h5, q1, q2⟩ := OTop.cat hO; have v := OCat.ones q1; have v5 := q2.one; simp only [szTop] at h1 ⊢; obtain ⟨Y0, Y1, Y2, Y3, Y4, rfl⟩ := len5 h5; simp only [memcons, memnil] at v; obtain ⟨w0, w1, w2, w3, w4, _⟩ := v; unfold s20; simp only [List.cons_append, List.nil_append]; simp only [go_sem, reduceAdd, reduceLeDiff]; refine ⟨⟨w0, w1, w2, w3, w4, v5⟩, ?_⟩; have o : Owns H0 H (p1 ++ (p2 ++ l)) := by simpa using o
 refine (markCategory_ok B).go q1 o (by omega) (by omega) fun a1 p1 H q1 d1 o => ?_; simp only [go_sem, reduceAdd, reduceLeDiff]; refine (markInt64SSS_ok B).go q2 (by simpa only [List.append_assoc] using o.rot) (by omega) (by omega) fun a2 p2 H q2 d2 o => ?_; simp only [go_sem]; have e : k + (szCat a.shape : Int) + (szLLL a.covers : Int) = k + ((szCat a.shape + szLLL a.covers : Nat) : Int) := by omega
 rw [e] at d2 ⊢; have o := o.rot; simp only [List.append_assoc] at o; exact ⟨H, .refl H, rfl, ⟨a1, a2⟩, p1 ++ p2, OTop.mk q1 q2, ⟨_, d1, d2⟩, o.rot⟩
theorem markSetFunctor_ok (B : Nat) : Marks Tryz.prog B 21 OSF szSF HdSF := by
 refine ⟨fun p X a H0 H l k hO o h0 h1 => c21 (by simp) fun _ => ?_⟩; obtain ⟨Xs, X5, X6, p1, p2, p3, rfl, rfl, h5, q1, q2, q3⟩ := OSF.cat hO; have v := OCat.ones q1; have v5 := q2.one; have v6 := q3.one; simp only [szSF] at h1 ⊢; obtain ⟨Y0, Y1, Y2, Y3, Y4, rfl⟩ := len5 h5; simp only [memcons, memnil] at v; obtain ⟨w0, w1, w2, w3, w4, _⟩ := v; unfold s21; simp only [List.cons_append, List.nil_append]; simp only [go_sem, reduceAdd, reduceLeDiff]; refine ⟨⟨w0, w1, w2, w3, w4, v5, v6⟩, ?_⟩; have o : Owns H0 H (p1 ++ (p2 ++ (p3 ++ l))) := by simpa using o
 refine (markCategory_ok B).go q1 o (by omega) (by omega) fun a1 p1 H q1 d1 o => ?_; simp only [go_sem, reduceAdd, reduceLeDiff]; refine (markInt64S_ok B).go q2 (by simpa only [List.append_assoc] using o.rot) (by omega) (by omega) fun a2 p2 H q2 d2 o => ?_; simp only [go_sem, reduceAdd, reduceLeDiff]; refine (markInt64SS_ok B).go q3 (by simpa only [List.append_assoc] using o.rot) (by omega) (by omega) fun a3 p3 H q3 d3 o => ?_; simp only [go_sem]; have e : k + (szCat a.shape : Int) + (szL a.sizes : Int) + (szLL a.acts : Int) = k + ((szCat a.shape + szL a.sizes + szLL a.acts : Nat) : Int) := by omega
 rw [e] at d3 ⊢; have o := o.rot; simp only [List.append_assoc] at o; exact ⟨H, .refl H, rfl, ⟨a1, a2, a3⟩, p1 ++ (p2 ++ p3), OSF.mk q1 q2 q3, ⟨_, _, d1, d2, d3⟩, o.rot⟩
end Go.Proofs.Shf
namespace Go.AW
open Go.RowKit
theorem LsG.app {α : Type} {O : Ob → AV → α → Prop} {p q l : Ob} {X Y : AV} {A : List α} {a : α} {H0 H : Heap} {K : Kont} (h : LsG O q X A) (hy : O p Y a) (h1 : Y.cells = [Y] ∧ Y.one = true) (o : Owns H0 H (p ++ (q ++ l))) (hm : A.length + 1 ≤ maxL)
  (hk : ∀ X' q' H', X'.one = true → LsG O q' X' (A ++ [a]) → Owns H0 H' (q' ++ l) → K X' H') : appW 1 (some X) (some (.sl [Y])) K H := by
 have hok : okEls 1 [Y] := by
  intro e he; rw [List.mem_singleton] at he; subst he; rw [h1.1]; exact ⟨rfl, fun c hc => by rw [List.mem_singleton] at hc; subst hc; exact h1.2⟩
 have hfl : flat [Y] = [Y] := by simp [flat, h1.1]
 rcases h with ⟨rfl, rfl, rfl⟩ | ⟨id, Xs, r, rfl, rfl, hr⟩
 ·simp only [appW, srcOf, app1]; refine ⟨⟨by simp [maxL], by simp [maxL], hok⟩, fun id hn => ?_⟩; rw [hfl]; refine hk (.buf id 1) ((id, .cells 1 [Y] 0) :: p) _ rfl (.inr ⟨id, [Y], p, rfl, rfl, ?_⟩) ?_
  ·have := RowsG.cons hy RowsG.nil; rw [List.append_nil] at this; exact this
  ·have := o.new hn (.cells 1 [Y] 0); simpa using this
 ·have o2 : Owns H0 H ((id, .cells 1 Xs 0) :: (p ++ (r ++ l))) := by
   refine o.perm ?_; simp
  have h0 := o2.h0; simp only at h0; have hl := hr.len; simp only [appW, h0, srcOf, app2]; refine ⟨⟨trivial, by simp, by simp; omega, by simp; omega, hok⟩, fun id' hn => ?_⟩; rw [hfl]; refine hk (.buf id' (Xs.length + 1)) ((id', .cells 1 (Xs ++ [Y]) 0) :: (r ++ p)) _ rfl (.inr ⟨id', Xs ++ [Y], r ++ p, rfl, by simp, ?_⟩) ?_
  ·refine hr.app ?_; have := RowsG.cons hy RowsG.nil; rw [List.append_nil] at this; exact this
  ·have := o2.mv hn (.cells 1 (Xs ++ [Y]) 0); refine this.perm (List.Perm.cons _ ?_); rw [← List.append_assoc]; exact List.Perm.append_right l List.perm_append_comm
def OB (p : Ob) (X : AV) (b : Bool) : Prop := p = [] ∧ X = .bool b
theorem Ow.bool : Ow OB AV.bool where
 io p X a h := by rw [h.2]; exact .bool _
 pl p X a h x hx := by rw [h.1] at hx; simp at hx
 ln p X a h g B H w v hW _ hv := by rw [h.2] at hv; exact hv.mono (Gh.le_lend hW)
 fz p X a h g B H0 H l w hW o := by
  obtain ⟨rfl, rfl⟩ := h; exact ⟨g, H, .refl g, hW, o, fun v hv => hv⟩
abbrev OBL := LsG OB
abbrev OBLL := LsG OBL
theorem owBL : Ow OBL (mL AV.bool) := Ow.bool.ls
theorem owBLL : Ow OBLL (mL (mL AV.bool)) := owBL.ls
theorem rowsB : ∀ (l : List Bool), RowsG OB (l.map AV.bool) l []
 | [] => .nil
 | a :: r => .cons (p := []) ⟨rfl, rfl⟩ (rowsB r)
theorem RowsG.bools {Xs : List AV} {l : List Bool} {o : Ob} (h : RowsG OB Xs l o) : o = [] ∧ Xs = l.map AV.bool := by
 induction h with
 | nil => exact ⟨rfl, rfl⟩
 | cons h _ ih => exact ⟨by rw [h.1, ih.1]; rfl, by rw [h.2, ih.2]; rfl⟩
end Go.AW
namespace Go.Proofs.Shf
open Go.AW Go.Proofs Go.Shf Go.RowKit
theorem add_calls (w : World) (b : Nat) (n d s : Int) (hs : ∀ w', (Op.intArith .add .i64 n d).run Tryz.prog w' = .ok (.int .i64 s) w') (hc : w.cell? ⟨b, 0, none⟩ = some (.int .i64 n)) (hz : w.frozen? ⟨b, 0, none⟩ = false) :
  Calls Tryz.prog 194 #[.pointer (some ⟨b, 0, none⟩), .int .i64 d] w fun e w' => e = .returned (.int .i64 s) ∧ w' = w.setCell ⟨b, 0, none⟩ (.int .i64 s) := by
 have h204 := run_call_add (P := Tryz.prog) Tryz.func204 (by kernel_rfl) (by kernel_rfl) (by kernel_rfl) .i64 (by kernel_rfl) hc hz (hs w)
 go_enter Tryz.func194, Tryz.ntmps194
 go_wp2
 go_ret
 exact ⟨rfl, rfl⟩
theorem add_own (B : Nat) {H0 H : Heap} {l : Ob} {ic : Nat} {n d : Int} {K : Kont} (o : Owns H0 H ((ic, .cells 1 [iI n] 0) :: l)) (hk : ∀ r n' H', Owns H0 H' ((ic, .cells 1 [iI n'] 0) :: l) → K r H') :
  CallH Tryz.prog B 194 [.ref ic 0, .int .i64 d] H K := by
 refine ⟨⟨_, Tryz.func194, by kernel_rfl, by kernel_rfl⟩, fun g w vs hW hv => ?_⟩; have h0 := o.h0; simp only at h0; obtain ⟨v0, v1, rfl⟩ : ∃ v0 v1, vs = #[v0, v1] := by
  have hv0 := hv.1; rcases vs with ⟨l⟩
  simp only [List.length_cons, List.length_nil] at hv0
  match l, hv0 with
  | [a, b], _ => exact ⟨a, b, rfl⟩
 have e0 : VRel g (.ref ic 0) v0 := hv.2 0 (by simp); have e1 : VRel g (.int .i64 d) v1 := hv.2 1 (by simp); cases e1
 cases e0 with
 | ref _ _ b cap hio =>
  obtain ⟨c, el, h5, hb, hf, hm, h6, h7, h8⟩ := hW.obj hio h0; have hlt : 0 < c.size := by simp at h7; omega
  have hv0 := h8 0 (by simp); have hc0 : w.cell? ⟨b, 0, none⟩ = some (c.getD 0 undef) := by rw [cell_of_row w b 0 c el (0, 0) h5]; exact getD_some hlt
  have e2 : c.getD 0 undef = .int .i64 n := by
   have hx : VRel g (.int .i64 n) (c.getD 0 undef) := hv0; generalize c.getD 0 undef = u at hx; cases hx; rfl
  rw [e2] at hc0; have hz : w.frozen? ⟨b, 0, none⟩ = false := by simp [World.frozen?, h5]
  refine (add_calls w b n d (IntKind.i64.wrap (n + d)) (fun w' => by simp [Op.intArith]) hc0 hz).mono ?_; rintro e w' ⟨rfl, rfl⟩; have hbs : b < w.heap.size := (Array.getElem?_eq_some_iff.1 h5).1; have hb' : (w.setCell ⟨b, 0, none⟩ (.int .i64 (IntKind.i64.wrap (n + d)))).heap[b]? = some (.cells (c.setIfInBounds 0 (.int .i64 (IntKind.i64.wrap (n + d)))) el (0, 0)) := by
   simp [World.setCell, Array.getElem?_modify, h5]
  have hoth : ∀ k, k ≠ b → (w.setCell ⟨b, 0, none⟩ (.int .i64 (IntKind.i64.wrap (n + d)))).heap[k]? = w.heap[k]? := by
   intro k hk; simp only [World.setCell]; rw [Array.getElem?_modify, if_neg (by omega)]
  have hsz : (w.setCell ⟨b, 0, none⟩ (.int .i64 (IntKind.i64.wrap (n + d)))).heap.size = w.heap.size := by simp [World.setCell]
  refine ⟨_, rfl, g, .int .i64 (IntKind.i64.wrap (n + d)), H.set ic (.cells 1 [iI (IntKind.i64.wrap (n + d))] 0), .refl g, hk _ _ _ (o.put _), .int _ _, ?_, ?_⟩
  ·refine hW.write ic b cap 1 [iI n] _ 0 c _ el h0 hio h5 hb' hsz hoth (by simp) (fun k hk => by omega) (by simp) (by simp [maxL]) (by simp; omega) (fun k hk => ?_); have : k = 0 := by simp at hk; omega
   subst this; simp [Array.getD, hlt]
   exact .int _ _
  ·exact ⟨rfl, rfl, rfl, by rw [hsz]; exact Nat.le_refl _, fun k hk => hoth k (by omega), Nat.le_refl _⟩
@[go_sem] def covO (cs cc : List AV) (id ic : Nat) (X : AV) (n : Int) (q l : Ob) : Ob := (id, .cells 4 [.ptr cs, .ptr cc, X, .ref ic 0] 0) :: (ic, .cells 1 [iI n] 0) :: (q ++ l)
def markIn (M : List (List Bool)) (x s : Nat) : List (List Bool) := M.set x ((M.getD x default).set s true)
theorem markIn_same {M : List (List Bool)} {x s : Nat} (h : (M.getD x default).getD s default = true) : markIn M x s = M := by
 have h1 : ∀ {β : Type} (l : List β) (i : Nat) (d : β), l.set i (l.getD i d) = l := by
  intro β l i d; apply List.ext_getElem?; intro j; by_cases e : j = i
  ·subst e; by_cases hj : j < l.length
   ·simp [gQ, hj]
   ·rw [List.getElem?_eq_none (by simp; omega), List.getElem?_eq_none (by omega)]
  ·rw [List.getElem?_set_ne (by omega)]
 have h2 := h1 (M.getD x default) s default; rw [h] at h2; rw [markIn, h2, h1]
theorem mark_own (B : Nat) {cs cc : List AV} {id ic : Nat} {X : AV} {n : Int} {q l : Ob} {M : List (List Bool)} {H0 H : Heap} {K : Kont} {x s : Int} (hX : OBLL q X M) (o : Owns H0 H (covO cs cc id ic X n q l))
  (hx : 0 ≤ x ∧ x.toNat < M.length) (hs : 0 ≤ s ∧ s.toNat < (ix M x).length)
  (hk : ∀ n' q' H', OBLL q' X (markIn M x.toNat s.toNat) → Owns H0 H' (covO cs cc id ic X n' q' l) → K (.tup []) H') :
  CallH Tryz.prog B 185 [.ref id 0, .int .i64 x, .int .i64 s] H K := by
 refine c185 (by simp) fun _ => ?_; obtain ⟨idX, Xs, r, rfl, rfl, hr⟩ := hX.pos (i := x.toNat) hx.2; have hXl := hr.len; unfold s185; have o1 : Owns H0 H ((((idX, .cells 1 Xs 0) :: r)) ++ ((id, .cells 4 [.ptr cs, .ptr cc, .buf idX Xs.length, .ref ic 0] 0) :: (ic, .cells 1 [iI n] 0) :: l)) := by
  refine o.perm ?_; simp only [covO]; have e1 : ((id, MObj.cells 4 [.ptr cs, .ptr cc, .buf idX Xs.length, .ref ic 0] 0) :: (ic, MObj.cells 1 [iI n] 0) :: (((idX, MObj.cells 1 Xs 0) :: r) ++ l)) =
   [(id, MObj.cells 4 [.ptr cs, .ptr cc, .buf idX Xs.length, .ref ic 0] 0), (ic, MObj.cells 1 [iI n] 0)] ++ (((idX, MObj.cells 1 Xs 0) :: r) ++ l) := rfl
  rw [e1]; refine (List.perm_append_comm).trans ?_; rw [List.append_assoc]; exact List.Perm.append_left _ List.perm_append_comm
 obtain ⟨p, r2, o2, hO, back⟩ := o1.row hr (i := x.toNat) (by omega); obtain ⟨idR, Ys, rr, rfl, hY, hrr⟩ := hO.pos (i := s.toNat) hs.2; obtain ⟨rfl, rfl⟩ := hrr.bools; have hgid : H.get id = some (.cells 4 [.ptr cs, .ptr cc, .buf idX Xs.length, .ref ic 0] 0) := o.h0; have hgX : H.get idX = some (.cells 1 Xs 0) := o1.h0; have hgR : H.get idR = some (.cells 1 ((M.getD x.toNat default).map AV.bool) 0) := o2.h0; have hsl : s.toNat < (M.getD x.toNat default).length := hs.2; rw [List.length_map] at hY; simp only [go_sem, reduceAdd]; refine rd_get hgid (by simp) ?_; simp only [go_sem]; refine ⟨⟨hx.1, by omega⟩, rd_get hgX (by omega) ?_⟩; rw [hY]; simp only [go_sem]; refine ⟨⟨hs.1, hsl⟩, ?_⟩; refine rd_inner (f := AV.bool) hgR hsl ?_; simp only [go_sem]; cases hm : (M.getD x.toNat default).getD s.toNat default with
 | true =>
  simp only [go_sem, hm]; refine ⟨H, .refl H, ?_⟩; refine hk n _ H ?_ o; rw [markIn_same hm]; exact hX
 | false =>
  simp only [go_sem, reduceAdd, hm]; refine rd_get hgid (by simp) ?_; simp only [go_sem]; refine ⟨⟨hx.1, by omega⟩, rd_get hgX (by omega) ?_⟩; rw [hY]; simp only [go_sem]; refine ⟨⟨hs.1, hsl⟩, ?_⟩; refine set_own (f := AV.bool) true o2 rfl hsl fun H o3 => ?_; obtain ⟨q', hr', o4⟩ := back ((M.getD x.toNat default).set s.toNat true) [(idR, .cells 1 (((M.getD x.toNat default).set s.toNat true).map AV.bool) 0)] H (by rw [hY]; exact .inr ⟨idR, _, [], rfl, by simp, rowsB _⟩) o3; have o5 : Owns H0 H ((ic, .cells 1 [iI n] 0) :: ((id, .cells 4 [.ptr cs, .ptr cc, .buf idX Xs.length, .ref ic 0] 0) :: (((idX, .cells 1 Xs 0) :: q') ++ l))) := by
   refine o4.perm ?_; have e1 : ((id, MObj.cells 4 [.ptr cs, .ptr cc, .buf idX Xs.length, .ref ic 0] 0) :: (ic, MObj.cells 1 [iI n] 0) :: l) = [(id, MObj.cells 4 [.ptr cs, .ptr cc, .buf idX Xs.length, .ref ic 0] 0), (ic, MObj.cells 1 [iI n] 0)] ++ l := rfl; rw [e1, ← List.append_assoc]; refine (List.Perm.append_right l List.perm_append_comm).trans ?_; rw [List.append_assoc]; exact List.Perm.swap _ _ _
  have hgid : H.get id = some (.cells 4 [.ptr cs, .ptr cc, .buf idX Xs.length, .ref ic 0] 0) := o5.tl.h0; simp only [go_sem, reduceAdd]; refine rd_get hgid (by simp) ?_; simp only [go_sem]; refine add_own B o5 fun r n' H o6 => ?_; simp only [go_sem]; exact ⟨H, .refl H, hk n' ((idX, .cells 1 Xs 0) :: q') H (.inr ⟨idX, Xs, q', rfl, rfl, hr'⟩) o6.swap⟩
theorem covO_perm (cs cc : List AV) (id ic : Nat) (X : AV) (n : Int) (q l : Ob) : (covO cs cc id ic X n q l).Perm (q ++ ((id, .cells 4 [.ptr cs, .ptr cc, X, .ref ic 0] 0) :: (ic, .cells 1 [iI n] 0) :: l)) := by
 have e1 : covO cs cc id ic X n q l = [(id, MObj.cells 4 [.ptr cs, .ptr cc, X, .ref ic 0] 0), (ic, MObj.cells 1 [iI n] 0)] ++ (q ++ l) := rfl; rw [e1]; refine (List.perm_append_comm).trans ?_; rw [List.append_assoc]; exact List.Perm.append_left _ List.perm_append_comm
noncomputable def clsV (c : Cat) : List AV := clsCells c (listsOf c) (iL (lensOf (listsOf c))) (iLL (pullsOf c (listsOf c)))
def noMarks (L : List (List (List Int))) : List (List Bool) := L.map fun s => List.replicate s.length false
theorem coverageOf_own (B : Nat) (c : Cat) (hc : c.Is) {H0 H : Heap} {l : Ob} {K : Kont} (o : Owns H0 H l) (hno : ¬ AllFew c → ∀ X, K (.tup [X, .bool false]) H)
  (hk : AllFew c → ∀ id ic X q H', OBLL q X (noMarks (listsOf c)) → Owns H0 H' (covO (clsV c) c.cells id ic X 0 q l) → K (.tup [.ref id 0, .bool true]) H') : CallH Tryz.prog B 184 [.ptr c.cells] H K := by
 refine c184p (by simp) fun _ => ?_; have hob := hc.1.o; unfold s184p; simp only [go_sem, reduceAdd]; refine (classifier_ok B c hc (sieves_all B libSorts c hc)).go fun _ => ?_; by_cases hf : AllFew c
 ·rw [clsOr, if_pos hf, dec_t hf]; replace hk := hk hf; have tab := tabOk hc hf; have htf := tab.few; have htl := tab.len; have hcv : clsV c = clsCells c (listsOf c) (iL (lensOf (listsOf c))) (iLL (pullsOf c (listsOf c))) := rfl; generalize hcs : clsV c = cs at *; generalize hL : listsOf c = L at *; subst hcv; simp only [go_sem, reduceAdd, reduceLT]; refine newRef_own o fun ic H o => ?_; simp only [go_sem, reduceAdd, reduceLeDiff]; refine ⟨by simp [maxL], newRef_own o fun id H o => ?_⟩; simp only [go_sem, reduceAdd, reduceLeDiff]; refine awp_for [6, 24, 25] (G := AV × Ob) (fun k g => [(26, some (.int .i64 (k : Int)))])
   (fun k g H => OBLL g.2 g.1 (noMarks (L.take k)) ∧ Owns H0 H (covO (clsCells c L (iL (lensOf L)) (iLL (pullsOf c L))) c.cells id ic g.1 0 g.2 l)) L.length (.nilsl, []) ⟨.inl ⟨rfl, rfl, rfl⟩, o⟩ rfl ?_
  clear o; rintro k ⟨X, q⟩ H hkk ⟨hX, o⟩; replace hX : OBLL q X (noMarks (L.take k)) := hX; replace o : Owns H0 H (covO (clsCells c L (iL (lensOf L)) (iLL (pullsOf c L))) c.cells id ic X 0 q l) := o; simp only [go_sem]; refine ⟨fun h1 => At.mk ?_, fun h1 => At.mk ?_⟩
  ·have h1p := of_decide h1; have w := wsucc (k := k) (by omega); have hfk := htf k h1p; simp only [go_sem, reduceAdd]; refine ⟨h1p, ?_⟩; have hgid : H.get id = some (.cells 4 [.ptr (clsCells c L (iL (lensOf L)) (iLL (pullsOf c L))), .ptr c.cells, X, .ref ic 0] 0) := o.h0; refine rd_get hgid (by simp) ?_; simp only [go_sem]; refine ⟨by simp only [maxL]; omega, ?_⟩; refine mks_list AV.bool false rfl o fun idn H o => ?_; simp only [go_sem, reduceAdd]; have hY : OBL [(idn, .cells 1 ((List.replicate (L.getD k default).length false).map AV.bool) 0)] (.buf idn (L.getD k default).length) (List.replicate (L.getD k default).length false) := .inr ⟨idn, _, [], rfl, by simp, rowsB _⟩; have o2 := o.perm (List.Perm.cons _ (covO_perm _ _ _ _ _ _ _ _)); refine hX.app (a := List.replicate (L.getD k default).length false) hY ⟨rfl, rfl⟩ o2 (by simp [noMarks, maxL]; omega) fun X' q' H hX1 hX' o3 => ?_; have o4 := o3.perm (covO_perm (clsCells c L (iL (lensOf L)) (iLL (pullsOf c L))) c.cells id ic X 0 q' l).symm; simp only [covO] at o4; simp only [go_sem, reduceAdd]; rw [AV.cells_one hX1]; refine st_cells o4 (by simp) rfl (fun c hc => by rw [List.mem_singleton] at hc; subst hc; exact hX1) fun H o => ?_; simp only [wr_cons, wr_nil, sZ, sY] at o; simp only [go_sem, w]; refine for_next (X', q') h1p ⟨?_, o⟩ rfl; simp only; rw [take_succ_getD L h1p, noMarks, List.map_append]; exact hX'
  ·have h1p := of_ndecide h1; obtain rfl : k = L.length := by omega
   rw [List.take_length] at hX; simp only [go_sem]; exact ⟨H, .refl H, hk id ic X q H hX o⟩
 ·rw [clsOr, if_neg hf, dec_f hf]; simp only [go_sem, reduceAdd, reduceLT]; exact ⟨H, .refl H, hno hf _⟩
end Go.Proofs.Shf
namespace Go.Shf
open Go.AW
def marksK (L C : List (List (List Int))) (k : Nat) : List (List Bool) := (List.range L.length).map fun x => if x < k then markAt L C x else List.replicate (L.getD x default).length false
theorem marksK_len {L C : List (List (List Int))} {k : Nat} : (marksK L C k).length = L.length := by simp [marksK]
theorem marksK_get {L C : List (List (List Int))} {k x : Nat} (hx : x < L.length) : (marksK L C k).getD x default = if x < k then markAt L C x else List.replicate (L.getD x default).length false := by
 rw [marksK, getD_map_range _ _ hx]
theorem getD_getElem {α : Type} [Inhabited α] (l : List α) {a : Nat} (h : a < l.length) : l.getD a default = l[a] := by simp [gQ, h]
theorem marksK_0 {L C : List (List (List Int))} : marksK L C 0 = L.map fun s => List.replicate s.length false := by
 apply List.ext_getElem (by simp [marksK]); intro i h1 h2; have hi : i < L.length := by simpa using h2
 simp [marksK, gQ, hi]
theorem marksK_all {L C : List (List (List Int))} : marksK L C L.length = marksOf L C := by
 apply List.ext_getElem (by simp [marksK, marksOf]); intro i h1 h2; have hi : i < L.length := by simpa [marksOf] using h2
 simp [marksK, marksOf, hi]
theorem marksK_succ {L C : List (List (List Int))} {k : Nat} (hk : k < L.length) : (marksK L C k).set k (markAt L C k) = marksK L C (k + 1) := by
 apply List.ext_getElem (by simp [marksK]); intro i h1 h2; have hi : i < L.length := by simpa [marksK] using h2
 rw [List.getElem_set]; simp only [marksK, List.getElem_map, List.getElem_range]; by_cases e : k = i
 ·subst e; simp
 ·rw [if_neg e]; by_cases e2 : i < k
  ·rw [if_pos e2, if_pos (by omega)]
  ·rw [if_neg e2, if_neg (by omega)]
end Go.Shf
namespace Go.Proofs.Shf
open Go.AW Go.Proofs Go.Shf
theorem coverage_own (B : Nat) (j : Top) (hF : j.Form) {H0 H : Heap} {l : Ob} {K : Kont} (o : Owns H0 H l) (hno : ¬ AllFew j.shape → ∀ X, K (.tup [X, .bool false]) H)
  (hk : AllFew j.shape → ∀ id ic X n q H', OBLL q X (marksOf (listsOf j.shape) j.covers) → Owns H0 H' (covO (clsV j.shape) j.shape.cells id ic X n q l) → K (.tup [.ref id 0, .bool true]) H') :
  CallH Tryz.prog B 167 [.ptr j.cells] H K := by
 refine c167 (by simp) fun ⟨hfj, _⟩ => ?_; have hc := hF.is; have hob := hc.1.o; unfold s167; simp only [go_sem, reduceAdd, reduceLeDiff]; refine coverageOf_own B j.shape hc o (fun hf X => ?_) fun hf id ic X q H hX o => ?_
 ·simp only [go_sem, reduceAdd, reduceLT]; exact ⟨H, .refl H, hno hf _⟩
 replace hk := hk hf; have tab := tabOk hc hf; have htf := tab.few; have htl := tab.len; have hcv := form_covers hF hf; have hall := tab.all; generalize hL : listsOf j.shape = L at *; have hcs : clsV j.shape = clsCells j.shape L (iL (lensOf L)) (iLL (pullsOf j.shape L)) := by rw [clsV, hL]
 have hCl := hcv.1; have hCm := hcv.2; have hflc : j.covers.length ≤ 8 := by omega
 have hn0 : noMarks L = marksK L j.covers 0 := by rw [marksK_0]; rfl
 rw [hn0] at hX; simp only [go_sem, reduceAdd, reduceLeDiff, reduceLT]; refine awp_for [4, 22, 23] (G := List (List Bool) × Int × Ob) (fun k g => [(24, some (.int .i64 (k : Int)))])
  (fun k g H => g.1 = marksK L j.covers k ∧ OBLL g.2.2 X g.1 ∧ Owns H0 H (covO (clsV j.shape) j.shape.cells id ic X g.2.1 g.2.2 l)) j.covers.length (_, 0, q) ⟨rfl, hX, o⟩ rfl ?_
 clear o hX; rintro k ⟨M, n, q⟩ H hkk ⟨hM, hX, o⟩; replace hM : M = marksK L j.covers k := hM; replace hX : OBLL q X M := hX; replace o : Owns H0 H (covO (clsV j.shape) j.shape.cells id ic X n q l) := o; simp only [go_sem]; refine ⟨fun h1 => At.mk ?_, fun h1 => At.mk ?_⟩
 ·have h1p := of_decide h1; have w := wsucc (k := k) (by omega); have hkL : k < L.length := by omega
  have hCk := hCm k hkL; have hfk := htf k hkL; have hnd := (hall k hkL).nodup; have hCkl : (j.covers.getD k default).length ≤ 1000000 := by
   have hnd2 : (j.covers.getD k default).Nodup := by
    rw [List.nodup_iff_pairwise_ne, List.pairwise_iff_getElem]; intro a b ha hb hab e; have hlt : ∀ d a, a + d + 1 < (j.covers.getD k default).length → cmp ((j.covers.getD k default).getD a default) ((j.covers.getD k default).getD (a + d + 1) default) < 0 := by
     intro d
     induction d with
     | zero => intro a ha; exact hF.ord k (by omega) a ha
     | succ d ih => intro a ha; exact cmp_trans (ih a (by omega)) (hF.ord k (by omega) (a + d + 1) (by omega))
    have := hlt (b - a - 1) a (by omega); rw [show a + (b - a - 1) + 1 = b by omega] at this; have e1 := getD_getElem (j.covers.getD k default) ha; have e2 := getD_getElem (j.covers.getD k default) hb; rw [e1, e2, e, cmp_zero.mpr rfl] at this; exact absurd this (by omega)
   have := List.Nodup.length_le_of_subset hnd2 fun s hs => (hCk s hs).2; omega
  simp only [go_sem]; refine ⟨h1p, ?_⟩; have hMs : M = (marksK L j.covers k).set k (List.replicate (L.getD k default).length false) := by
   rw [hM]; have h3 : (marksK L j.covers k).getD k default = List.replicate (L.getD k default).length false := by rw [marksK_get hkL, if_neg (by omega)]
   rw [← h3]; apply List.ext_getElem (by simp); intro i hi1 hi2; rw [List.getElem_set]
   split
   ·rename_i e; subst e; simp [gQ, hi1]
   ·rfl
  generalize hS : L.getD k default = S at *; generalize hR : j.covers.getD k default = R at *; refine awp_for [4, 6, 22, 23, 24, 29, 30] (G := List Bool × Int × Ob) (fun i g => [(31, some (.int .i64 (i : Int)))])
   (fun i g H => RowI S R i g.1 ∧ OBLL g.2.2 X ((marksK L j.covers k).set k g.1) ∧ Owns H0 H (covO (clsV j.shape) j.shape.cells id ic X g.2.1 g.2.2 l)) R.length (List.replicate S.length false, n, q) ⟨RowI.zero S R, by simp only; rw [← hMs]; exact hX, o⟩ rfl ?_
  clear o hX hMs hM M n q; rintro i ⟨A, n, q⟩ H hi ⟨hA, hX, o⟩; replace hA : RowI S R i A := hA; replace hX : OBLL q X ((marksK L j.covers k).set k A) := hX; replace o : Owns H0 H (covO (clsV j.shape) j.shape.cells id ic X n q l) := o; simp only [go_sem]; refine ⟨fun h2 => At.mk ?_, fun h2 => At.mk ?_⟩
  ·have h2p := of_decide h2; have w2 := wsucc (k := i) (by omega); have hmem := (hCk _ (mem_getD.mpr ⟨i, h2p, rfl⟩)).2; have hin := indexOf_in hmem; have hix : ix L k = S := by rw [ix_nat, hS]
   have hstep := hA.step hnd hmem; simp only [go_sem, reduceAdd]; refine ⟨h2p, ?_⟩; have hgid : H.get id = some (.cells 4 [.ptr (clsV j.shape), .ptr j.shape.cells, X, .ref ic 0] 0) := o.h0; refine rd_get hgid (by simp) ?_; rw [hcs]; simp only [go_sem]; refine (number_ok B j.shape L (iL (lensOf L)) (iLL (pullsOf j.shape L)) k ⟨by omega, by omega⟩ (R.getD i default)).go fun _ => ?_; rw [hix]; simp only [go_sem]; have hget : ix ((marksK L j.covers k).set k A) (k : Int) = A := by
    rw [ix_nat, getD_set, if_pos ⟨rfl, by rw [marksK_len]; exact hkL⟩]
   refine mark_own B hX o ⟨by omega, by rw [List.length_set, marksK_len]; simpa using hkL⟩ ⟨hin.1, by rw [hget, hA.1]; exact hin.2.1⟩ fun n' q' H hX' o' => ?_; simp only [go_sem, w2]; refine for_next (A.set (indexOf S (R.getD i default)).toNat true, n', q') h2p ⟨hstep, ?_, by rw [hcs] at o'; exact o'⟩ rfl; simp only; have e : markIn ((marksK L j.covers k).set k A) (k : Int).toNat (indexOf S (R.getD i default)).toNat = (marksK L j.covers k).set k (A.set (indexOf S (R.getD i default)).toNat true) := by
    rw [markIn, Int.toNat_natCast, ← ix_nat, hget, List.set_set]
   rw [e] at hX'; exact hX'
  ·have h2p := of_ndecide h2; obtain rfl : i = R.length := by omega
   have hdone := hA.done; have e : markRow S R = markAt L j.covers k := by rw [markAt, hS, hR]
   rw [hdone, e, marksK_succ hkL] at hX; simp only [go_sem, w]; exact for_next (marksK L j.covers (k + 1), n, q) h1p ⟨rfl, hX, o⟩ rfl
 ·have h1p := of_ndecide h1; obtain rfl : k = j.covers.length := by omega
  rw [hM, hCl, marksK_all] at hX; simp only [go_sem]; exact ⟨H, .refl H, hk id ic X n q H hX o⟩
end Go.Proofs.Shf
namespace Go.AW
open Go.RowKit
theorem Owns.base {H0 H : Heap} {l : Ob} (o : Owns H0 H l) : Owns H0 (l ++ H0) l := by
 refine ⟨fun i x hx => ?_, fun x hx => ?_, o.nd, o.out⟩
 ·rw [Heap.get_append]; cases e1 : Heap.get l i with
  | some o1 => have := o.out _ (Heap.get_mem e1); simp only at this; rw [this] at hx; cases hx
  | none => simpa using hx
 ·rw [Heap.get_append, Heap.mem_get o.nd hx]; rfl
theorem Owns.base_sub {H0 H : Heap} {l : Ob} (o : Owns H0 H l) : Heap.sub (l ++ H0) H := by
 intro i x e; rw [Heap.get_append] at e; cases e1 : Heap.get l i with
 | some o1 =>
  rw [e1] at e; have := o.get _ (Heap.get_mem e1); simp only at this; rw [this]; exact e
 | none => rw [e1, Option.none_or] at e; exact o.sub _ _ e
theorem wk_cov {F : Env → Heap → Prop} {σ : Env} {H0 H : Heap} {l q : Ob} {cs cc : List AV} {id ic : Nat} {X : AV} {n : Int} {M : List (List Bool)} (t : Nat) (hX : OBLL q X M)
  (o : Owns H0 H (Go.Proofs.Shf.covO cs cc id ic X n q l)) (ht : σ.get t = some (.ref id 0))
  (hk : ∀ H', Owns H0 H' l → wkW F ((t, some (.ptr [.ptr cs, .ptr cc, mL (mL AV.bool) M, .ref ic 0])) :: σ) H') : wkW F σ H := by
 have ol : Owns H0 H l := by
  have := o.perm (Go.Proofs.Shf.covO_perm cs cc id ic X n q l); have o2 : Owns H0 H ((id, .cells 4 [.ptr cs, .ptr cc, X, .ref ic 0] 0) :: (ic, .cells 1 [iI n] 0) :: (l ++ q)) := o.perm (List.Perm.cons _ (List.Perm.cons _ List.perm_append_comm)); exact ⟨o2.sub, fun x hx => o2.get x (by simp [hx]), (List.nodup_append.mp (by simpa using o2.tl.tl.nd)).1, fun x hx => o2.out x (by simp [hx])⟩
 have h1 : H.get id = some (.cells 4 [.ptr cs, .ptr cc, X, .ref ic 0] 0) := o.h0; refine wkW_step (σ1 := (t, some (.ptr [.ptr cs, .ptr cc, mL (mL AV.bool) M, .ref ic 0])) :: σ) ?_ (hk _ ol.base); intro g B w tm hW hE; obtain ⟨q1, q2⟩ := hE t _ ht; generalize hu : tm.getD t undef = u at q2; cases q2 with
 | ref _ _ b cap hio =>
  obtain ⟨c, el, h5, hb, hf, hm, h6, h7, h8⟩ := hW.obj hio h1; obtain ⟨g1, H1, r1, r2, r3, r4⟩ := owBLL.fz _ _ _ hX g B H0 H _ w hW (o.perm (Go.Proofs.Shf.covO_perm cs cc id ic X n q l)); have h1' : H1.get id = some (.cells 4 [.ptr cs, .ptr cc, X, .ref ic 0] 0) := r3.h0; obtain ⟨c2, g2, s1, s2, s3, s4, s5, s6⟩ := r2.give id b cap 4 _ 0 h1' (r1.io _ _ hio); have hc : ∀ i, i < 4 → c2.getD i undef = c.getD i undef := by
   intro i hi; have := s2.fz _ _ _ (s5 i hi); rw [cell_of_row w b i c el (0, 0) h5] at this; have hi' : i < c.size := by simp at h7; omega
   rw [Array.getElem?_eq_getElem hi'] at this; rw [← Option.some.inj this]; simp [Array.getD, hi']
  have o3 := (r3.put (.cells 4 [.ptr cs, .ptr cc, X, .ref ic 0] [AV.ptr cs, .ptr cc, X, .ref ic 0].length)).tl.tl; refine ⟨g2, r1.trans s1, s2.sub o3.base_sub, fun s x e => ?_⟩; simp only [Env.get] at e
  split at e
  ·rename_i hs; cases e; subst hs; refine ⟨q1, ?_⟩; rw [hu]; refine .ptr _ b 0 (fun k => c2.getD k undef) (fun i hi => by rw [Nat.zero_add]; exact s5 i (by simpa using hi)) (fun i hi => ?_); have hi4 : i < 4 := by simpa using hi
   by_cases e2 : i = 2
   ·subst e2; rw [hc 2 (by omega)]; have := h8 2 (by simp); exact (r4 _ (by simpa using this)).mono s1
   ·have := s6 i (by simpa using hi4); obtain rfl | rfl | rfl : i = 0 ∨ i = 1 ∨ i = 3 := by omega
    all_goals simpa using this
  ·obtain ⟨z1, z2⟩ := hE s x e; exact ⟨z1, z2.mono (r1.trans s1)⟩
end Go.AW
namespace Go.Shf
open Go.AW Go.Proofs.Shf
noncomputable def covV (j : Top) : Cov := ⟨j.shape, lensOf (listsOf j.shape), pullsOf j.shape (listsOf j.shape), listsOf j.shape, marksOf (listsOf j.shape) j.covers⟩
def mk2 (M : List (List Bool)) (x s : Nat) : Bool := (M.getD x default).getD s default
def P1 (c : Cat) (L : List (List (List Int))) (M : List (List Bool)) (k : Nat) : Prop := ∀ x, x < k → mg M x ((topsOf c L).getD x default) = true
def P2i (c : Cat) (L : List (List (List Int))) (M : List (List Bool)) (a i : Nat) : Prop := ∀ s, s < i → mk2 M (c.frm.getD a default).toNat s = true → mg M (c.to.getD a default) (((pullsOf c L).getD a default).getD s default) = true
def P2 (c : Cat) (L : List (List (List Int))) (M : List (List Bool)) (k : Nat) : Prop := ∀ a, a < k → P2i c L M a (M.getD (c.frm.getD a default).toNat default).length
def P3s (v : Cov) (x t i : Nat) : Prop := ∀ s, s < i → mk2 v.marks x s = true → mk2 v.marks x t = false → locP v ((v.sieves.getD x default).getD t default) ((v.sieves.getD x default).getD s default) → mk2 v.marks x t = true
def P3t (v : Cov) (x k : Nat) : Prop := ∀ t, t < k → P3s v x t (v.marks.getD x default).length
def P3 (v : Cov) (k : Nat) : Prop := ∀ x, x < k → P3t v x (v.sieves.getD x default).length
theorem all_succ {p : Nat → Prop} {k : Nat} : (∀ i, i < k + 1 → p i) ↔ (∀ i, i < k → p i) ∧ p k :=
 ⟨fun h => ⟨fun i hi => h i (by omega), h k (by omega)⟩, fun ⟨h, hk⟩ => lt_succ_all h hk⟩
theorem locP_iff {j : Top} (tab : TabOk j.shape (listsOf j.shape)) {x s t : Nat} (hx : x < (listsOf j.shape).length) (hs : s < ((listsOf j.shape).getD x default).length) (ht : t < ((listsOf j.shape).getD x default).length) :
  locP (covV j) (((listsOf j.shape).getD x default).getD t default) (((listsOf j.shape).getD x default).getD s default) ↔ LocP j.shape (listsOf j.shape) (covV j).marks x s t := by
 have hsv := tab.sv hx hs; rw [locP, LocP, all_getD]; refine forall_congr' fun i => imp_congr_right fun hi => ?_; have ha := hsv.arr (mem_getD.mpr ⟨i, hi, rfl⟩); generalize hav : (((listsOf j.shape).getD x default).getD s default).getD i default = a at *; have hto := tab.to ha.1; have e : (ix (pullsOf j.shape (listsOf j.shape)) a).getD t default = indexOf (ix (listsOf j.shape) (ix j.shape.to a)) (pullS j.shape a (((listsOf j.shape).getD x default).getD t default)) := by
  rw [pulls_get ha.1, ha.2, ix_nat, map_getD _ ht]
 rw [e]; rfl
theorem cov_top {j : Top} (hF : j.Form) (hf : AllFew j.shape) (hM : (covV j).marks.length = (listsOf j.shape).length) :
  (P1 j.shape (listsOf j.shape) (covV j).marks (listsOf j.shape).length ∧ P2 j.shape (listsOf j.shape) (covV j).marks j.shape.frm.length ∧ P3 (covV j) (listsOf j.shape).length) ↔ TopIs j.shape j.covers := by
 have tab := tabOk hF.is hf; have hcv := form_covers hF hf; have hmk : MarkOk (listsOf j.shape) (covV j).marks := markOk; rw [← topM_iff (L := listsOf j.shape) tab fun x hx s hs => (hcv.2 x hx s hs).1]; have hms : marksOf (listsOf j.shape) j.covers = (covV j).marks := rfl; have hsv : (covV j).sieves = listsOf j.shape := rfl; rw [hms]
 constructor
 ·rintro ⟨h1, h2, h3⟩ x hx; have hxL : x < (listsOf j.shape).length := by omega
  refine ⟨h1 x hxL, fun s hs hsm => ⟨fun a ha e => ?_, fun k hk => ?_⟩⟩
  ·have hx2 : (j.shape.frm.getD a default).toNat = x := by rw [e]; simp
   refine h2 a ha s (by rw [hx2]; exact hs) ?_; rw [hx2]; exact hsm
  ·rw [hmk.row x hxL] at hs hk; by_cases hl : LocP j.shape (listsOf j.shape) (covV j).marks x s k
   ·left
    cases hb : mk2 (covV j).marks x k with
    | true => exact hb
    | false =>
     have := h3 x hxL k (by rw [hsv]; exact hk) s (by rw [hmk.row x hxL]; exact hs) hsm hb (by rw [hsv]; exact (locP_iff tab hxL hs hk).mpr hl); rw [hb] at this; cases this
   ·exact .inr hl
 ·intro h; refine ⟨fun x hx => (h x (by omega)).1, fun a ha s hs hsm => ?_, fun x hx t ht s hs hsm htm hl => ?_⟩
  ·have haa : 0 ≤ (a : Int) ∧ (a : Int).toNat < j.shape.frm.length := ⟨by omega, by simpa using ha⟩; have hfr := tab.frm haa; rw [ix_nat] at hfr; exact ((h _ (by rw [hM]; exact hfr.2)).2 s hs hsm).1 a ha (by rw [Int.toNat_of_nonneg hfr.1])
  ·rw [hsv] at ht hl; rw [hmk.row x hx] at hs; rcases ((h x (by rw [hM]; exact hx)).2 s (by rw [hmk.row x hx]; exact hs) hsm).2 t (by rw [hmk.row x hx]; exact ht) with h4 | h4
   ·exact h4
   ·exact absurd ((locP_iff tab hx hs ht).mp hl) h4
end Go.Shf
namespace Go.Proofs.Shf
open Go.AW Go.Proofs Go.Shf
theorem visit_own (B : Nat) (v : Cov) (cnt : AV) {H0 H : Heap} {l : Ob} {gid : Nat} {b : Bool} {K : Kont} {x s : Int} (o : Owns H0 H ((gid, .cells 1 [.bool b] 0) :: l)) (hx : 0 ≤ x ∧ x.toNat < v.marks.length) (hs : 0 ≤ s ∧ s.toNat < (ix v.marks x).length)
  (hk : ∀ H', Owns H0 H' ((gid, .cells 1 [.bool (b && mg v.marks x s)] 0) :: l) → K (.tup []) H') : CallH Tryz.prog B 188 [.int .i64 x, .int .i64 s, .ref gid 0, .ptr [.ptr (v.cells cnt)]] H K := by
 refine c188 (by simp) fun _ => ?_; unfold s188; have hg : H.get gid = some (.cells 1 [.bool b] 0) := o.h0; simp only [go_sem, reduceAdd]; refine rd_get hg (by simp) ?_; have e : (ix v.marks x).getD s.toNat default = mg v.marks x s := rfl; cases b with
 | false =>
  simp only [go_sem]; refine st_cells o (by simp) (by (simp only [go_sem]); (try simp)) (by first | (simp only [go_sem]; done) | ((simp only [go_sem]); simp [AV.one, one_mL])) fun H o => ?_; simp only [wr_cons, wr_nil, sZ, sY] at o; simp only [go_sem]; exact ⟨H, .refl H, hk H o⟩
 | true =>
  simp only [go_sem, reduceAdd, reduceLeDiff]; refine ⟨hx, hs, ?_⟩; refine st_cells o (by simp) (by (simp only [go_sem]); (try simp)) (by first | (simp only [go_sem]; done) | ((simp only [go_sem]); simp [AV.one, one_mL])) fun H o => ?_; simp only [wr_cons, wr_nil, sZ, sY] at o; simp only [go_sem]; refine ⟨H, .refl H, hk H ?_⟩; rw [Bool.true_and, ← e]; exact o
theorem follows_own (B : Nat) (j : Top) (hF : j.Form) (hf : AllFew j.shape) (cnt : AV) {H0 H : Heap} {l : Ob} {gid : Nat} {K : Kont} (o : Owns H0 H ((gid, .cells 1 [.bool true] 0) :: l))
  (hk : ∀ b H', (b = true ↔ TopIs j.shape j.covers) → Owns H0 H' ((gid, .cells 1 [.bool b] 0) :: l) → K (.tup []) H') :
  CallH Tryz.prog B 187 [.ptr ((covV j).cells cnt), .fn (.func 188) [.ref gid 0, .ptr [.ptr ((covV j).cells cnt)]]] H K := by
 have tab := tabOk hF.is hf; have hc := hF.is; have hob := hc.1.o; have hm := hc.1.m; have htl := hc.1.tol; have hL := tab.len; have hcv := form_covers hF hf; have hmk : MarkOk (listsOf j.shape) (covV j).marks := markOk; have hfin := cov_top hF hf hmk.len; have hsv : (covV j).sieves = listsOf j.shape := rfl; have hsh : (covV j).shape = j.shape := rfl; have hcells : (covV j).cells cnt = [.ptr (clsCells j.shape (listsOf j.shape) (iL (lensOf (listsOf j.shape))) (iLL (pullsOf j.shape (listsOf j.shape)))), .ptr j.shape.cells, mL (mL AV.bool) (covV j).marks, cnt] := rfl; have htops := tops_ok B j.shape (listsOf j.shape) tab (iL (lensOf (listsOf j.shape))) (iLL (pullsOf j.shape (listsOf j.shape))); have hvis := fun (H0 H : Heap) (l : Ob) (gid : Nat) (b : Bool) (K : Kont) (x s : Int) => visit_own B (covV j) cnt (H0 := H0) (H := H) (l := l) (gid := gid) (b := b) (K := K) (x := x) (s := s); have hloc : ∀ x s t : Nat, x < (listsOf j.shape).length → s < ((listsOf j.shape).getD x default).length → t < ((listsOf j.shape).getD x default).length →
   Pur Tryz.prog B 199 [.ptr ((covV j).cells cnt), iL (((listsOf j.shape).getD x default).getD t default), iL (((listsOf j.shape).getD x default).getD s default)] (.bool (dec (locP (covV j) (((listsOf j.shape).getD x default).getD t default) (((listsOf j.shape).getD x default).getD s default)))) := by
  intro x s t hx hs ht; refine locally_ok B (covV j) hc cnt _ _ x (tab.sv hx ht) (fun a ha => ?_) hL hmk.len (fun y hy => ⟨?_, fun s hs => ?_⟩) ?_
  ·have := (tab.sv hx hs).arr ha; exact ⟨this.1.1, this.1.2, this.2⟩
  ·have hy2 : 0 ≤ y ∧ y < j.shape.objs := hy; have := hmk.row y.toNat (by omega); exact this
  ·have hy2 : 0 ≤ y ∧ y < j.shape.objs := hy; exact ((tab.at hy2.1 (by omega)).mem s).mpr hs
  ·have := (tab.sv hx hs).len; omega
 rw [hcells] at hvis hloc ⊢; refine c187p (by simp) fun _ => ?_; unfold s187p; have hml := hmk.len; have hrow := hmk.row; have hfew := tab.few; have htop : ∀ x : Nat, x < (listsOf j.shape).length → 0 ≤ (topsOf j.shape (listsOf j.shape)).getD x default ∧ ((topsOf j.shape (listsOf j.shape)).getD x default).toNat < ((listsOf j.shape).getD x default).length := fun x hx => (tab.top hx).1; have htlen : (topsOf j.shape (listsOf j.shape)).length = (listsOf j.shape).length := tops_len; have hfr : ∀ a : Nat, a < j.shape.frm.length → 0 ≤ j.shape.frm.getD a default ∧ (j.shape.frm.getD a default).toNat < (listsOf j.shape).length := fun a ha => by
  have := tab.frm (a := a) ⟨by omega, by simpa using ha⟩
  rwa [ix_nat] at this
 have hto : ∀ a : Nat, a < j.shape.frm.length → 0 ≤ j.shape.to.getD a default ∧ (j.shape.to.getD a default).toNat < (listsOf j.shape).length := fun a ha => by
  have := tab.to (a := a) ⟨by omega, by simpa using ha⟩
  rwa [ix_nat] at this
 have hpl : ∀ a s : Nat, a < j.shape.frm.length → s < ((listsOf j.shape).getD (j.shape.frm.getD a default).toNat default).length → (s < ((pullsOf j.shape (listsOf j.shape)).getD a default).length) ∧
   0 ≤ ((pullsOf j.shape (listsOf j.shape)).getD a default).getD s default ∧ (((pullsOf j.shape (listsOf j.shape)).getD a default).getD s default).toNat < ((listsOf j.shape).getD (j.shape.to.getD a default).toNat default).length := fun a s ha hs => by
  have haa : 0 ≤ (a : Int) ∧ (a : Int).toNat < j.shape.frm.length := ⟨by omega, by simpa using ha⟩; have h1 := tab.pull haa (k := s) (by rw [ix_nat]; exact hs); have h2 := pulls_row (L := listsOf j.shape) haa; simp only [ix_nat] at h1 h2; refine ⟨?_, h1.1⟩; rw [h2]; exact hs
 have hpll : (pullsOf j.shape (listsOf j.shape)).length = j.shape.frm.length := pulls_len; have hmgs : ∀ x s : Nat, mk2 (covV j).marks x s = ((covV j).marks.getD x default).getD s default := fun _ _ => rfl; generalize hLv : listsOf j.shape = L at *; have hP3 : ∀ x t i, P3s (covV j) x t i ↔ ∀ s, s < i → mk2 (covV j).marks x s = true → mk2 (covV j).marks x t = false → locP (covV j) ((L.getD x default).getD t default) ((L.getD x default).getD s default) → mk2 (covV j).marks x t = true := fun x t i => by
  rw [P3s, hsv]
 have hP3f : ∀ x k, P3t (covV j) x k ↔ ∀ t, t < k → P3s (covV j) x t ((covV j).marks.getD x default).length := fun _ _ => Iff.rfl; have hP3x : ∀ k, P3 (covV j) k ↔ ∀ x, x < k → P3t (covV j) x (L.getD x default).length := fun k => by rw [P3, hsv]
 generalize hMv : (covV j).marks = M at *; simp only [go_sem, reduceAdd, reduceLeDiff]; refine htops.go fun _ => ?_; simp only [go_sem]; refine awp_for [0, 1, 18, 19] (G := Bool) (fun k g => [(20, some (.int .i64 (k : Int)))])
  (fun k b H => (b = true ↔ P1 j.shape L M k) ∧ Owns H0 H ((gid, .cells 1 [.bool b] 0) :: l)) (topsOf j.shape L).length true ⟨by simp [P1], o⟩ rfl ?_
 clear o; rintro x b H hx ⟨hb, o⟩; replace o : Owns H0 H ((gid, .cells 1 [.bool b] 0) :: l) := o; simp only [go_sem]; refine ⟨fun h1 => At.mk ?_, fun h1 => At.mk ?_⟩
 ·have h1p := of_decide h1; have w := wsucc (k := x) (by omega); have h2 := htop x (by omega); simp only [go_sem]; refine ⟨h1p, ?_⟩; refine hvis H0 H l gid b _ x _ o ⟨by omega, by simpa using (by omega : x < M.length)⟩ ⟨h2.1, by rw [ix_nat, hrow x (by omega)]; exact h2.2⟩ fun H o => ?_; simp only [go_sem, w]; refine for_next (b && mg M x ((topsOf j.shape L).getD x default)) h1p ⟨?_, o⟩ rfl; rw [P1, all_succ, Bool.and_eq_true, hb, P1]
 have h1p := of_ndecide h1; obtain rfl : x = (topsOf j.shape L).length := by omega
 rw [htlen] at hb; simp only [go_sem, reduceAdd, reduceLeDiff]; refine awp_for [0, 1, 37] (G := Bool) (fun k g => [(38, some (.int .i64 (k : Int)))])
  (fun k b H => (b = true ↔ P1 j.shape L M L.length ∧ P2 j.shape L M k) ∧ Owns H0 H ((gid, .cells 1 [.bool b] 0) :: l)) j.shape.frm.length b ⟨by rw [hb, P2]; simp, o⟩ rfl ?_
 clear o hb h1 b hx H h1p; rintro a b H ha ⟨hb, o⟩; replace o : Owns H0 H ((gid, .cells 1 [.bool b] 0) :: l) := o; simp only [go_sem]; refine ⟨fun h1 => At.mk ?_, fun h1 => At.mk ?_⟩
 ·have h1p := of_decide h1; have w := wsucc (k := a) (by omega); have hfa := hfr a h1p; have hta := hto a h1p; simp only [go_sem, reduceAdd, reduceLeDiff]; refine ⟨h1p, ⟨hfa.1, by omega⟩, _, (cloneB_ok B (M.getD (j.shape.frm.getD a default).toNat default)).run, ?_⟩; have hrl := hrow _ hfa.2; have hfw := hfew _ hfa.2; simp only [go_sem]; refine awp_for [0, 1, 6, 37, 38, 57, 58] (G := Bool) (fun k g => [(59, some (.int .i64 (k : Int)))])
   (fun i b H => (b = true ↔ P1 j.shape L M L.length ∧ P2 j.shape L M a ∧ P2i j.shape L M a i) ∧ Owns H0 H ((gid, .cells 1 [.bool b] 0) :: l)) (M.getD (j.shape.frm.getD a default).toNat default).length b ⟨by rw [hb, P2i]; simp, o⟩ rfl ?_
  clear o hb b H; rintro s b H hs ⟨hb, o⟩; replace o : Owns H0 H ((gid, .cells 1 [.bool b] 0) :: l) := o; simp only [go_sem]; refine ⟨fun h2 => At.mk ?_, fun h2 => At.mk ?_⟩
  ·have h2p := of_decide h2; have w2 := wsucc (k := s) (by omega); have hp := hpl a s h1p (by omega); simp only [go_sem]; refine ⟨h2p, ?_⟩; cases hms : mk2 M (j.shape.frm.getD a default).toNat s with
   | false =>
    have hms2 := hms; rw [hmgs] at hms2; simp only [go_sem, hms2]; simp only [go_sem, w2]; refine for_next b h2p ⟨?_, o⟩ rfl; have : P2i j.shape L M a (s + 1) ↔ P2i j.shape L M a s := by
     rw [P2i, all_succ, P2i, hms]; simp
    rw [this]; exact hb
   | true =>
    have hms2 := hms; rw [hmgs] at hms2; simp only [go_sem, reduceAdd, reduceLeDiff, hms2]; refine ⟨by omega, by omega, hp.1, ?_⟩; refine hvis H0 H l gid b _ _ _ o ⟨hta.1, by omega⟩ ⟨hp.2.1, by rw [ix, hrow _ hta.2]; exact hp.2.2⟩ fun H o => ?_; simp only [go_sem, w2]; refine for_next (b && mg M (j.shape.to.getD a default) (((pullsOf j.shape L).getD a default).getD s default)) h2p ⟨?_, o⟩ rfl; have : P2i j.shape L M a (s + 1) ↔ P2i j.shape L M a s ∧ mg M (j.shape.to.getD a default) (((pullsOf j.shape L).getD a default).getD s default) = true := by
     rw [P2i, all_succ, P2i, hms]; simp
    rw [this, Bool.and_eq_true, hb, and_assoc, and_assoc]
  ·have h2p := of_ndecide h2; obtain rfl : s = (M.getD (j.shape.frm.getD a default).toNat default).length := by omega
   simp only [go_sem, w]; refine for_next b h1p ⟨?_, o⟩ rfl; have : P2 j.shape L M (a + 1) ↔ P2 j.shape L M a ∧ P2i j.shape L M a (M.getD (j.shape.frm.getD a default).toNat default).length := by rw [P2, all_succ, P2]
   rw [this]; exact hb
 have h1p := of_ndecide h1; obtain rfl : a = j.shape.frm.length := by omega
 simp only [go_sem, reduceAdd, reduceLeDiff]; refine awp_for [0, 1, 99, 100] (G := Bool) (fun k g => [(101, some (.int .i64 (k : Int)))])
  (fun k b H => (b = true ↔ P1 j.shape L M L.length ∧ P2 j.shape L M j.shape.frm.length ∧ P3 (covV j) k) ∧ Owns H0 H ((gid, .cells 1 [.bool b] 0) :: l)) L.length b ⟨by rw [hb, hP3x]; simp, o⟩ rfl ?_
 clear o hb h1 b ha H h1p; rintro x b H hx ⟨hb, o⟩; replace o : Owns H0 H ((gid, .cells 1 [.bool b] 0) :: l) := o; simp only [go_sem]; refine ⟨fun h1 => At.mk ?_, fun h1 => At.mk ?_⟩
 ·have h1p := of_decide h1; have w := wsucc (k := x) (by omega); have hrl := hrow x h1p; have hfw := hfew x h1p; simp only [go_sem]; refine ⟨h1p, ?_⟩; refine awp_for [0, 1, 9, 10, 99, 100, 101, 107] (G := Bool) (fun k g => [(108, some (.int .i64 (k : Int)))])
   (fun t b H => (b = true ↔ (P1 j.shape L M L.length ∧ P2 j.shape L M j.shape.frm.length ∧ P3 (covV j) x) ∧ P3t (covV j) x t) ∧ Owns H0 H ((gid, .cells 1 [.bool b] 0) :: l)) (L.getD x default).length b ⟨by rw [hb, hP3f]; simp, o⟩ rfl ?_
  clear o hb b H; rintro t b H ht ⟨hb, o⟩; replace o : Owns H0 H ((gid, .cells 1 [.bool b] 0) :: l) := o; simp only [go_sem]; refine ⟨fun h2 => At.mk ?_, fun h2 => At.mk ?_⟩
  ·have h2p := of_decide h2; have w2 := wsucc (k := t) (by omega); simp only [go_sem, reduceAdd, reduceLeDiff]; refine ⟨by omega, ?_⟩; refine (cloneB_ok B (M.getD x default)).go fun _ => ?_; simp only [go_sem]; refine awp_for [0, 1, 9, 10, 11, 99, 100, 101, 107, 108, 118, 119] (G := Bool) (fun k g => [(120, some (.int .i64 (k : Int)))])
    (fun i b H => (b = true ↔ ((P1 j.shape L M L.length ∧ P2 j.shape L M j.shape.frm.length ∧ P3 (covV j) x) ∧ P3t (covV j) x t) ∧ P3s (covV j) x t i) ∧ Owns H0 H ((gid, .cells 1 [.bool b] 0) :: l)) (M.getD x default).length b ⟨by rw [hb, hP3]; simp, o⟩ rfl ?_
   clear o hb b H; rintro s b H hs ⟨hb, o⟩; replace o : Owns H0 H ((gid, .cells 1 [.bool b] 0) :: l) := o; simp only [go_sem]; refine ⟨fun h3 => At.mk ?_, fun h3 => At.mk ?_⟩
   ·have h3p := of_decide h3; have w3 := wsucc (k := s) (by omega); have hlo := hloc x s t h1p (by omega) h2p; simp only [go_sem]; refine ⟨h3p, ?_⟩; have hstep : P3s (covV j) x t (s + 1) ↔ P3s (covV j) x t s ∧ (mk2 M x s = true → mk2 M x t = false → locP (covV j) ((L.getD x default).getD t default) ((L.getD x default).getD s default) → mk2 M x t = true) := by
     rw [hP3, all_succ, hP3]
    cases hms : mk2 M x s with
    | false =>
     have hms2 := hms; rw [hmgs] at hms2; simp only [go_sem, hms2]; simp only [go_sem, w3]; refine for_next b h3p ⟨?_, o⟩ rfl; rw [hstep, hms]; simpa using hb
    | true =>
     have hms2 := hms; rw [hmgs] at hms2; cases hmt : mk2 M x t with
     | true =>
      have hmt2 := hmt; rw [hmgs] at hmt2; simp only [go_sem, reduceAdd, reduceLeDiff, hms2]; simp only [go_sem, hms2, hmt2]; refine ⟨by omega, by omega, ?_⟩; simp only [go_sem, w3]; refine for_next b h3p ⟨?_, o⟩ rfl; rw [hstep, hmt]; simpa using hb
     | false =>
      have hmt2 := hmt; rw [hmgs] at hmt2; simp only [go_sem, reduceAdd, reduceLeDiff, hms2]; simp only [go_sem, hms2, hmt2]; refine ⟨by omega, by omega, h2p, by omega, _, hlo.run, ?_⟩; by_cases hl : locP (covV j) ((L.getD x default).getD t default) ((L.getD x default).getD s default)
      ·rw [dec_t hl]; simp only [go_sem]; refine hvis H0 H l gid b _ x t o ⟨by omega, by simpa using (by omega : x < M.length)⟩ ⟨by omega, by rw [ix_nat]; simpa using (by omega : t < (M.getD x default).length)⟩ fun H o => ?_; have hmg : mg M (x : Int) (t : Int) = false := by
        rw [mg, ix_nat, ix_nat]; exact hmt2
       rw [hmg, Bool.and_false] at o; simp only [go_sem, w3]; refine for_next false h3p ⟨?_, o⟩ rfl; rw [hstep]; refine ⟨fun e => (by cases e), fun e => ?_⟩; have := e.2.2 hms hmt hl; rw [hmt] at this; cases this
      ·rw [dec_f hl]; simp only [go_sem, w3]; refine for_next b h3p ⟨?_, o⟩ rfl; rw [hstep, hb]; exact ⟨fun e => ⟨e.1, e.2, fun _ _ h => absurd h hl⟩, fun e => ⟨e.1, e.2.1⟩⟩
   ·have h3p := of_ndecide h3; obtain rfl : s = (M.getD x default).length := by omega
    simp only [go_sem, w2]; refine for_next b h2p ⟨?_, o⟩ rfl; have : P3t (covV j) x (t + 1) ↔ P3t (covV j) x t ∧ P3s (covV j) x t (M.getD x default).length := by rw [hP3f, all_succ, hP3f]
    rw [this, ← and_assoc]; exact hb
  ·have h2p := of_ndecide h2; obtain rfl : t = (L.getD x default).length := by omega
   simp only [go_sem, w]; refine for_next b h1p ⟨?_, o⟩ rfl; have : P3 (covV j) (x + 1) ↔ P3 (covV j) x ∧ P3t (covV j) x (L.getD x default).length := by rw [hP3x, all_succ, hP3x]
   rw [this, hb]
   constructor
   ·rintro ⟨⟨a1, a2, a3⟩, a4⟩; exact ⟨a1, a2, a3, a4⟩
   ·rintro ⟨a1, a2, a3, a4⟩; exact ⟨⟨a1, a2, a3⟩, a4⟩
 ·have h1p := of_ndecide h1; obtain rfl : x = L.length := by omega
  simp only [go_sem]; exact ⟨H, .refl H, hk b H (by rw [hb]; exact hfin) o⟩
theorem isTopology_ok (B : Nat) (j : Top) (hF : j.Form) (hf : AllFew j.shape) (cnt : AV) : Pur Tryz.prog B 168 [.ptr ((covV j).cells cnt)] (.bool (dec (TopIs j.shape j.covers))) := by
 have hfol := fun (H0 H : Heap) (l : Ob) (gid : Nat) (K : Kont) => follows_own B j hF hf cnt (H0 := H0) (H := H) (l := l) (gid := gid) (K := K); generalize (covV j).cells cnt = cv at *; refine ⟨fun H0 => c168 (by simp) fun _ => ?_⟩; unfold s168; simp only [go_sem, reduceAdd]; refine newRef_own (.nil _) fun gid H o => ?_; simp only [go_sem]; refine st_cells o (by simp) (by (simp only [go_sem]); (try simp)) (by first | (simp only [go_sem]; done) | ((simp only [go_sem]); simp [AV.one, one_mL])) fun H o => ?_; simp only [wr_cons, wr_nil, sZ, sY] at o; simp only [go_sem]; refine hfol H0 H [] gid _ o fun b H hb o => ?_; simp only [go_sem]; refine rd_cells o (by simp) ?_; simp only [go_sem]; refine pure_ret ?_ o.sub; cases b with
 | true => rw [dec_t (hb.mp rfl)]
 | false => rw [dec_f (fun e => by have := hb.mpr e; cases this)]
def CovK (j : Top) (code : Int) (H0 : Heap) : Kont := fun r H' => H' = H0 ∧ ∃ X, r = .tup [X, .int .i64 code] ∧ (code = 0 → ∃ cnt, X = .ptr ((covV j).cells cnt))
theorem cov_ret {j : Top} {code n : Int} {H0 H : Heap} {X : AV} (hs : H0.sub H) (hn : n = code) (h : code = 0 → ∃ cnt, X = .ptr ((covV j).cells cnt)) : subW (CovK j code H0) (.tup [X, .int .i64 n]) H :=
 ⟨H0, hs, rfl, X, by rw [hn], h⟩
theorem limitCode_ok (B : Nat) (j : Top) (hF : j.Form) (H0 : Heap) : CallH Tryz.prog B 131 [.ptr j.cells] H0 (CovK j (codeT j) H0) := by
 refine c131p (by simp) fun _ => ?_; unfold s131p; simp only [go_sem, reduceAdd]; refine coverage_own B j hF (.nil H0) (fun hf X => ?_) fun hf id ic X n q H hX o => ?_
 ·have e : codeT j = 3 := by rw [codeT, if_neg (fun e => e hF), if_pos hf]
  simp only [go_sem, reduceAdd, reduceLT]; exact cov_ret (.refl _) e.symm (fun e2 => by rw [e] at e2; cases e2)
 ·simp only [go_sem, reduceAdd, reduceLT]; refine wk_cov 4 hX o rfl fun H o => wkW_done ?_; have hcv : [AV.ptr (clsV j.shape), .ptr j.shape.cells, mL (mL AV.bool) (marksOf (listsOf j.shape) j.covers), .ref ic 0] = (covV j).cells (.ref ic 0) := rfl; have htop := isTopology_ok B j hF hf (.ref ic 0); rw [hcv]; generalize hcc : (covV j).cells (.ref ic 0) = cv at *; simp only [go_sem]; refine htop.go fun _ => ?_; by_cases ht : TopIs j.shape j.covers
  ·have e : codeT j = 0 := by rw [codeT, if_neg (fun e => e hF), if_neg (fun e => e hf), if_pos ht]
   rw [dec_t ht]; simp only [go_sem]; exact cov_ret o.sub e.symm fun _ => ⟨_, by rw [hcc]⟩
  ·have e : codeT j = 5 := by rw [codeT, if_neg (fun e => e hF), if_neg (fun e => e hf), if_neg ht]
   rw [dec_f ht]; simp only [go_sem]; exact cov_ret o.sub e.symm (fun e2 => by rw [e] at e2; cases e2)
open Classical in
noncomputable def codeO (j : Top) (f : SF) : Int := if codeT j = 0 ∧ ¬ j.shape = f.shape then 5 else codeT j
open Classical in
theorem onCode_ok (B : Nat) (j : Top) (f : SF) (hF : j.Form) (H0 : Heap) : CallH Tryz.prog B 88 [.ptr j.cells, mL sfP [f]] H0 (CovK j (codeO j f) H0) := by
 refine c88 (by simp) fun _ => ?_; unfold s88; simp only [go_sem, reduceAdd]; refine (limitCode_ok B j hF H0).mono ?_; rintro r H ⟨rfl, X, rfl, hX⟩; by_cases h0 : codeT j = 0
 ·obtain ⟨cnt, rfl⟩ := hX h0; have e0 : codeO j f = if j.shape = f.shape then 0 else 5 := by
   rw [codeO]; by_cases h : j.shape = f.shape
   ·rw [if_neg (fun e => e.2 h), if_pos h, h0]
   ·rw [if_pos ⟨h0, h⟩, if_neg h]
  rw [h0]; generalize hcc : (covV j).cells cnt = cv at *; simp only [go_sem, reduceAdd, reduceLT]; refine ⟨fun e => (by simp at e), fun _ => At.mk ?_⟩; simp only [go_sem, reduceAdd]; refine awp_for [0, 6, 18, 19] (G := Unit) (fun k _ => [(20, some (.int .i64 (k : Int)))]) (fun k _ H' => H' = H ∧ (0 < k → j.shape = f.shape)) 1 () ⟨rfl, by simp⟩ rfl ?_; rintro k _ H' hk ⟨rfl, hall⟩; simp only [go_sem]; refine ⟨fun h1 => At.mk ?_, fun h1 => At.mk ?_⟩
  ·have h1p := of_decide h1; obtain rfl : k = 0 := by simp at h1p; omega
   have w := wsucc (k := 0) (by omega); simp only [go_sem, reduceAdd, reduceLeDiff, reduceLT]; refine ⟨_, (sameCategory_ok B j.shape f.shape).run, ?_⟩; by_cases h : j.shape = f.shape
   ·rw [dec_t h]; simp only [go_sem, reduceAdd, w]; exact for_next () (by omega) ⟨rfl, fun _ => h⟩ rfl
   ·rw [dec_f h]; simp only [go_sem]; rw [if_neg h] at e0; exact cov_ret (.refl _) e0.symm (fun e2 => by rw [e0] at e2; cases e2)
  ·have h1p := of_ndecide h1; have hk1 : 0 < k := by simp at h1p; omega
   rw [if_pos (hall hk1)] at e0; simp only [go_sem]; exact cov_ret (.refl _) e0.symm fun _ => ⟨_, by rw [hcc]⟩
 ·have e0 : codeO j f = codeT j := by rw [codeO, if_neg (fun e => h0 e.1)]
  simp only [go_sem, reduceAdd, reduceLT]; refine ⟨fun _ => At.mk ?_, fun e => ?_⟩; rotate_left
  ·exact absurd (by simpa using e) h0
  simp only [go_sem]; exact cov_ret (.refl _) e0.symm (fun e2 => absurd (e0.symm.trans e2) h0)
end Go.Proofs.Shf
