/- A part of a proof. -/
import Derived.Test.YtadpkiiglobmpaaGreatF7
import Derived.Test.YtadpkiiglobmpaaGreatProg
import Derived.Shelf.SlLaysF0
import Derived.Shelf.SlSortCmp.WholeK
set_option linter.unusedVariables false
set_option linter.unusedSimpArgs false
set_option linter.unusedSectionVars false
open Nat (reduceEqDiff reduceAdd reduceMul reduceLeDiff reduceLT)
namespace Go.Proofs.Shf
open Go.AW Go.Proofs Go.RowKit
set_option maxRecDepth 100000 in
theorem once_load0 (a : Addr) (w : World) (hc : w.cell? a = some (.int .u32 0)) :
    Calls Tryz.prog 327 #[.pointer (some a)] w fun e w' => e = .returned (.bool false) ∧ w' = w := by
  have hl := run_call_load (P := Tryz.prog) Tryz.func359 (by kernel_rfl) (by kernel_rfl) (by kernel_rfl) .u32 (by kernel_rfl) hc
  go_enter Tryz.func327, Tryz.ntmps327
  go_wp2
  refine bodyPost_ret (results_tmp rfl _ _ _) rfl ?_
  exact ⟨rfl, rfl⟩
set_option maxRecDepth 100000 in
theorem once_load1 (a : Addr) (w : World) (hc : w.cell? a = some (.int .u32 1)) :
    Calls Tryz.prog 327 #[.pointer (some a)] w fun e w' => e = .returned (.bool true) ∧ w' = w := by
  have hl := run_call_load (P := Tryz.prog) Tryz.func359 (by kernel_rfl) (by kernel_rfl) (by kernel_rfl) .u32 (by kernel_rfl) hc
  go_enter Tryz.func327, Tryz.ntmps327
  go_wp2
  refine bodyPost_ret (results_tmp rfl _ _ _) rfl ?_
  exact ⟨rfl, rfl⟩
set_option maxRecDepth 100000 in
set_option maxHeartbeats 1600000 in
theorem once_slow (b off : Nat) (ca : Array Value) (w : World) (Q : World → Prop)
    (h0 : w.cell? ⟨b, off, none⟩ = some (.int .u32 0)) (h1 : w.cell? ⟨b, off + 1, none⟩ = some (.int .i32 0))
    (f0 : w.frozen? ⟨b, off, none⟩ = false) (f1 : w.frozen? ⟨b, off + 1, none⟩ = false)
    (hf : Calls Tryz.prog 287 ca (w.setCell ⟨b, off + 1, none⟩ (.int .i32 1)) fun e w' => e = .returned (.tuple #[]) ∧ Q w')
    (hQ : ∀ w', Q w' → w'.cell? ⟨b, off, none⟩ = some (.int .u32 0) ∧ w'.frozen? ⟨b, off, none⟩ = false ∧ w'.cell? ⟨b, off + 1, none⟩ = some (.int .i32 1) ∧ w'.frozen? ⟨b, off + 1, none⟩ = false) :
    Calls Tryz.prog 328 #[.pointer (some ⟨b, off, none⟩), .func (.func 287) #[] ca] w fun e w' => e = .returned (.tuple #[]) ∧
      ∃ w1, Q w1 ∧ w' = (w1.drew.setCell ⟨b, off, none⟩ (.int .u32 1)).setCell ⟨b, off + 1, none⟩ (.int .i32 0) := by
  have hl := run_call_load (P := Tryz.prog) Tryz.func359 (by kernel_rfl) (by kernel_rfl) (by kernel_rfl) .u32 (by kernel_rfl) (w := w.setCell ⟨b, off + 1, none⟩ (.int .i32 1)) (a := ⟨b, off, none⟩) (x := 0) ((World.cell?_setCell_other _ ⟨b, off + 1, none⟩ ⟨b, off, none⟩ _ (by simp)).trans h0)
  have hnot : ∀ (x : Bool) (w : World), (Op.unary .not (.bool x)).run Tryz.prog w = .ok (.bool (!x)) w := fun _ _ => rfl
  go_enter_defers Tryz.func328, Tryz.ntmps328
  go_wp2_with (go_at_call 360; refine (once_lock ⟨b, off + 1, none⟩ _ (by go_simp) (by go_simp)).mono ?_; rintro e w' ⟨rfl, rfl⟩)
  go_wp2_with (go_at_call 327; refine (once_load0 ⟨b, off, none⟩ _ ((World.cell?_setCell_other _ ⟨b, off + 1, none⟩ ⟨b, off, none⟩ _ (by simp)).trans h0)).mono ?_; rintro e w' ⟨rfl, rfl⟩)
  go_wp2_with (go_at_call 287; refine hf.mono ?_; rintro e w' ⟨rfl, hq⟩)
  -- two deferred calls, the last laid first
  obtain ⟨q0, q1, q2, q3⟩ := hQ _ hq
  refine leaves_cons (f := 362) (args := #[.pointer (some ⟨b, off, none⟩), .bool true]) (by simp) (by simp [go_sem]) ?_
  refine (once_store ⟨b, off, none⟩ (.int .u32 0) .returning _ q0 q1).mono ?_
  rintro e u' w'' ⟨rfl, rfl, rfl⟩
  refine leaves_cons (f := 361) (args := #[.pointer (some ⟨b, off + 1, none⟩)]) (by simp [settle]) (by simp [go_sem]) ?_
  refine (once_unlock ⟨b, off + 1, none⟩ _ _ ?_ (by simp [q3])).mono ?_
  · refine (World.cell?_setCell_other _ ⟨b, off, none⟩ ⟨b, off + 1, none⟩ _ (by simp)).trans ?_
    rw [World.cell?_drew]
    exact q2
  rintro e u' w'' ⟨rfl, rfl, rfl⟩
  simp [Leaves, settle, results, Tryz.results328]
  exact ⟨w', hq, rfl⟩
end Go.Proofs.Shf
namespace Go.AW
open Go.Proofs Go.Shf Go.Proofs.Shf
theorem WRel.peek {g : Gh} {B : Nat} {H : Heap} {w : World} (hW : WRel g B H w) {id b cap sz off : Nat} {cs : List AV} (hio : g.io id = some (.blk b cap)) (ho : H.get id = some (.cells sz cs 0))
    {k : IntKind} {n : Int} (hc : cs[off]? = some (.int k n)) : w.cell? ⟨b, off, none⟩ = some (.int k n) ∧ w.frozen? ⟨b, off, none⟩ = false := by
  obtain ⟨c, el, h5, _, _, _, h6, h7, h8⟩ := hW.obj hio ho
  have hl : off < cs.length := (List.getElem?_eq_some_iff.1 hc).1
  have hv := h8 off hl
  rw [List.getD_eq_getElem?_getD, hc] at hv
  have hr : w.cell? ⟨b, off, none⟩ = some (c.getD off undef) := by rw [cell_of_row w b off c el _ h5]; exact getD_some (by omega)
  refine ⟨?_, by simp [World.frozen?, h5]⟩
  rw [hr]
  generalize c.getD off undef = v at hv
  cases hv; rfl
end Go.AW
namespace Go.Proofs.Shf
open Go.AW Go.Proofs Go.RowKit
end Go.Proofs.Shf
namespace Go.AW
open Go.Proofs Go.Shf Go.Proofs.Shf
theorem WRel.poke {g : Gh} {B : Nat} {H : Heap} {w : World} (hW : WRel g B H w) {id b cap sz off : Nat} {cs : List AV} (hio : g.io id = some (.blk b cap)) (ho : H.get id = some (.cells sz cs 0))
    (h2 : off < cs.length) (k : IntKind) (n : Int) :
    WRel g B (H.set id (.cells sz (cs.set off (.int k n)) 0)) (w.setCell ⟨b, off, none⟩ (.int k n)) ∧ Go.AW.Below B w (w.setCell ⟨b, off, none⟩ (.int k n)) := by
  obtain ⟨w', r1, r2, r3⟩ := hW.store (P := Tryz.prog) hio ho (off := off) (vs := [.int k n]) (us := [.int k n]) (by omega) (by simp; omega) rfl (by simp [AV.one]) (fun i hi => by
    have : i = 0 := by simpa using hi
    subst this; exact .int k n)
  obtain ⟨c, el, h5, _, _, _, h6, h7, h8⟩ := hW.obj hio ho
  have hr : w.cell? ⟨b, off, none⟩ = some (c.getD off undef) := by rw [cell_of_row w b off c el _ h5]; exact getD_some (by omega)
  have hz : w.frozen? ⟨b, off, none⟩ = false := by simp [World.frozen?, h5]
  have e : w' = w.setCell ⟨b, off, none⟩ (.int k n) := by
    have ea : (⟨b, off, none⟩ : Addr).add 0 = ⟨b, off, none⟩ := rfl
    simp only [storeCells, ea, Sem.run_bind, run_store (hv := (rfl : (Value.int k n).oneCell' = true)), hr, hz] at r1
    simpa [Result.andThen] using r1.symm
  subst e
  exact ⟨r2, r3⟩
end Go.AW
namespace Go.Proofs.Shf
open Go.AW Go.Proofs Go.RowKit
theorem slow_ok (B : Nat) {H : Heap} {K : Kont} {id sz off : Nat} {cs ca : List AV} (ho : H.get id = some (.cells sz cs 0)) (c0 : cs[off]? = some (.int .u32 0)) (c1 : cs[off + 1]? = some (.int .i32 0))
    (h : CallH Tryz.prog B 287 ca (H.set id (.cells sz (cs.set (off + 1) (.int .i32 1)) 0)) fun r H' => r = .tup [] ∧ ∃ cs', H'.get id = some (.cells sz cs' 0) ∧ cs'[off]? = some (.int .u32 0) ∧ cs'[off + 1]? = some (.int .i32 1) ∧
      K (.tup []) ((H'.set id (.cells sz (cs'.set off (.int .u32 1)) 0)).set id (.cells sz ((cs'.set off (.int .u32 1)).set (off + 1) (.int .i32 0)) 0))) :
    CallH Tryz.prog B 328 [.ref id off, .fn (.func 287) ca] H K := by
  refine ⟨⟨_, Tryz.func328, by kernel_rfl, by kernel_rfl⟩, fun g w vs hW hv => ?_⟩
  obtain ⟨hs, hv⟩ := hv
  have v0 := hv 0 (by simp)
  have v1 := hv 1 (by simp)
  simp only [List.getD_cons_zero, List.getD_cons_succ] at v0 v1
  have e : vs = #[vs.getD 0 undef, vs.getD 1 undef] := by
    apply Array.ext
    · simpa using hs
    · intro i h1 h2
      have : i = 0 ∨ i = 1 := by simp at h2; omega
      rcases this with rfl | rfl <;> simp [Array.getD, h1]
  rw [e]
  clear e
  generalize vs.getD 0 undef = x0 at v0
  generalize vs.getD 1 undef = x1 at v1
  cases v0 with
  | ref _ _ b cap hio =>
  cases v1 with
  | fn _ _ cvs hcs hcv =>
  obtain ⟨w0, f0⟩ := hW.peek hio ho c0
  obtain ⟨w1, f1⟩ := hW.peek hio ho c1
  obtain ⟨hW1, hB1⟩ := hW.poke hio ho (List.getElem?_eq_some_iff.1 c1).1 .i32 1
  have hcall := h.2 g _ cvs hW1 ⟨hcs, hcv⟩
  refine (once_slow b off cvs w (fun w' => ∃ g' H' cs', g.le g' ∧ WRel g' B H' w' ∧ Go.AW.Below B w w' ∧ H'.get id = some (.cells sz cs' 0) ∧ cs'[off]? = some (.int .u32 0) ∧ cs'[off + 1]? = some (.int .i32 1) ∧
      K (.tup []) ((H'.set id (.cells sz (cs'.set off (.int .u32 1)) 0)).set id (.cells sz ((cs'.set off (.int .u32 1)).set (off + 1) (.int .i32 0)) 0))) w0 w1 f0 f1 (hcall.mono ?_) ?_).mono ?_
  · rintro e w' ⟨v, rfl, g', r, H', hg, ⟨rfl, cs', k1, k2, k3, k4⟩, hr, hW', hB⟩
    refine ⟨?_, g', H', cs', hg, hW', hB1.trans hB, k1, k2, k3, k4⟩
    cases hr with
    | tup _ us hus _ => rw [show us = #[] from Array.eq_empty_of_size_eq_zero hus]
  · rintro w' ⟨g', H', cs', hg, hW', hB, k1, k2, k3, k4⟩
    have hio' := hg.io _ _ hio
    obtain ⟨a1, a2⟩ := hW'.peek hio' k1 k2
    obtain ⟨a3, a4⟩ := hW'.peek hio' k1 k3
    exact ⟨a1, a2, a3, a4⟩
  · rintro e w' ⟨rfl, wq, ⟨g', H', cs', hg, hW', hB, k1, k2, k3, k4⟩, rfl⟩
    have hio' := hg.io _ _ hio
    have l0 := (List.getElem?_eq_some_iff.1 k2).1
    have l1 := (List.getElem?_eq_some_iff.1 k3).1
    obtain ⟨hW2, hB2⟩ := hW'.drew.poke hio' k1 l0 .u32 1
    obtain ⟨hW3, hB3⟩ := hW2.poke hio' (Heap.get_set_same ..) (by simpa using l1) .i32 0
    refine ⟨_, rfl, g', _, _, hg, k4, .tup [] #[] rfl (fun i hi => by simp at hi), ?_, ((hB.drew).trans hB2).trans hB3⟩
    exact hW3
theorem flag_ok (B : Nat) {H : Heap} {K : Kont} {id sz off : Nat} {cs : List AV} (ho : H.get id = some (.cells sz cs 0)) (d : Bool) (c0 : cs[off]? = some (.int .u32 (bif d then 1 else 0)))
    (hk : K (.bool d) H) : CallH Tryz.prog B 327 [.ref id off] H K := by
  refine ⟨⟨_, Tryz.func327, by kernel_rfl, by kernel_rfl⟩, fun g w vs hW hv => ?_⟩
  obtain ⟨hs, hv⟩ := hv
  have v0 := hv 0 (by simp)
  simp only [List.getD_cons_zero] at v0
  have e : vs = #[vs.getD 0 undef] := by
    apply Array.ext
    · simpa using hs
    · intro i h1 h2
      have : i = 0 := by simp at h2; omega
      subst this; simp [Array.getD, h1]
  rw [e]
  clear e
  generalize vs.getD 0 undef = x0 at v0
  cases v0 with
  | ref _ _ b cap hio =>
  obtain ⟨w0, f0⟩ := hW.peek hio ho c0
  cases d
  · refine (once_load0 _ w w0).mono ?_
    rintro e w' ⟨rfl, rfl⟩
    exact ⟨_, rfl, .same hW (.bool false) hk⟩
  · refine (once_load1 _ w w0).mono ?_
    rintro e w' ⟨rfl, rfl⟩
    exact ⟨_, rfl, .same hW (.bool true) hk⟩
end Go.Proofs.Shf
namespace Go.Shf
open Go.AW
def homs (c : Cat) (x : Int) (n : Nat) : List (List Int) := (List.range n).map fun (y : Nat) => hom c x (y : Int)
theorem homs_succ (c : Cat) (x : Int) (n : Nat) : homs c x (n + 1) = homs c x n ++ [hom c x n] := by simp [homs, List.range_succ]
theorem homs_len (c : Cat) (x : Int) (n : Nat) : (homs c x n).length = n := by simp [homs]
theorem homs_get (c : Cat) (x : Int) {n k : Nat} (h : k < n) : (homs c x n).getD k default = hom c x k := getD_map_range _ _ h
def OutO (c : Cat) (x : Int) (d st : Int) (X : AV) : MObj := .cells 6 [.ptr c.cells, iI x, .int .u32 d, .int .i32 st, .int .u32 0, X] 0
end Go.Shf
namespace Go.Proofs.Shf
open Go.AW Go.Proofs Go.Shf
theorem homP_t {c : Cat} {x y : Int} {i : Nat} (h1 : c.frm.getD i default = x) (h2 : c.to.getD i default = y) : homP c x y i = true := by
  simp only [homP, Bool.and_eq_true, decide_eq_true_eq]; exact ⟨h1, h2⟩
theorem homP_f {c : Cat} {x y : Int} {i : Nat} (h : ¬ (c.frm.getD i default = x ∧ c.to.getD i default = y)) : homP c x y i = false := by
  simp only [homP, Bool.and_eq_false_iff, decide_eq_false_iff_not]
  by_cases h1 : c.frm.getD i default = x
  · exact .inr fun h2 => h ⟨h1, h2⟩
  · exact .inl h1
theorem hom_ok (B : Nat) (c : Cat) (hs : c.Shape) (x y : Int) : Pur Tryz.prog B 191 [.ptr c.cells, iI x, iI y] (iL (hom c x y)) := by
  refine ⟨fun H0 => c191p (by simp) fun _ => ?_⟩
  have hm := hs.m
  have htl := hs.tol
  unfold s191p
  (try simp only [go_sem, ↓reduceIte, reduceEqDiff, reduceAdd, reduceMul, reduceLeDiff, reduceLT])
  refine new_list iI (.nil _) fun id H o => ?_
  (try simp only [go_sem, ↓reduceIte, reduceEqDiff, reduceAdd, reduceMul, reduceLeDiff, reduceLT])
  refine awp_for [0, 1, 2, 14] (G := Nat × List (Int)) (fun k g => [(7, some (.buf g.1 g.2.length)), (15, some (.int .i64 (k : Int)))]) (fun k g H => g.2 = (nats (homP c x y) k) ∧ Owns H0 H [(g.1, .cells 1 (g.2.map iI) 0)]) c.frm.length (id, []) ⟨by simp, o⟩ rfl ?_
  rintro k ⟨id, out⟩ H hk ⟨hout, o⟩
  replace hout : out = (nats (homP c x y) k) := hout
  (try simp only [go_sem, ↓reduceIte, reduceEqDiff, reduceAdd, reduceMul, reduceLeDiff, reduceLT])
  refine ⟨fun h1 => At.mk ?_, fun h1 => At.mk ?_⟩
  · have h1 := of_decide h1
    have w1 := wsucc (k := k) (by omega)
    have hlen : out.length ≤ k := by rw [hout]; exact nats_len _ _
    (try simp only [go_sem, ↓reduceIte, reduceEqDiff, reduceAdd, reduceMul, reduceLeDiff, reduceLT])
    refine ⟨h1, ?_⟩
    refine ⟨fun h2 => At.mk ?_, fun h2 => At.mk ?_⟩
    · (try simp only [go_sem, ↓reduceIte, reduceEqDiff, reduceAdd, reduceMul, reduceLeDiff, reduceLT, h2])
      have h2p := h2; simp only [bnt, bnf, decide_eq_true_eq, decide_eq_false_iff_not, dect, decf, Int.not_lt, Int.not_le, Nat.not_lt, Decidable.not_not, ne_eq, Bool.true_eq_false, Bool.false_eq_true] at h2p
      refine ⟨by omega, ?_⟩
      refine ⟨fun h3 => At.mk ?_, fun h3 => At.mk ?_⟩
      · (try simp only [go_sem, ↓reduceIte, reduceEqDiff, reduceAdd, reduceMul, reduceLeDiff, reduceLT, h3])
        have h3p := h3; simp only [bnt, bnf, decide_eq_true_eq, decide_eq_false_iff_not, dect, decf, Int.not_lt, Int.not_le, Nat.not_lt, Decidable.not_not, ne_eq, Bool.true_eq_false, Bool.false_eq_true] at h3p
        refine app_own (k : Int) o rfl rfl (by simp only [maxL]; omega) fun id H o => ?_
        (try simp only [go_sem, ↓reduceIte, reduceEqDiff, reduceAdd, reduceMul, reduceLeDiff, reduceLT, w1])
        exact for_next (_, _) (by omega) ⟨by rw [hout, nats_t (homP_t h2p h3p)], o⟩ rfl
      · (try simp only [go_sem, ↓reduceIte, reduceEqDiff, reduceAdd, reduceMul, reduceLeDiff, reduceLT, h3, w1])
        have h3p := h3; simp only [bnt, bnf, decide_eq_true_eq, decide_eq_false_iff_not, dect, decf, Int.not_lt, Int.not_le, Nat.not_lt, Decidable.not_not, ne_eq, Bool.true_eq_false, Bool.false_eq_true] at h3p
        exact for_next (_, _) (by omega) ⟨by rw [hout, nats_f (homP_f fun e => h3p e.2)], o⟩ rfl
    · (try simp only [go_sem, ↓reduceIte, reduceEqDiff, reduceAdd, reduceMul, reduceLeDiff, reduceLT, h2, w1])
      have h2p := h2; simp only [bnt, bnf, decide_eq_true_eq, decide_eq_false_iff_not, dect, decf, Int.not_lt, Int.not_le, Nat.not_lt, Decidable.not_not, ne_eq, Bool.true_eq_false, Bool.false_eq_true] at h2p
      exact for_next (_, _) (by omega) ⟨by rw [hout, nats_f (homP_f fun e => h2p e.1)], o⟩ rfl
  · (try simp only [go_sem, ↓reduceIte, reduceEqDiff, reduceAdd, reduceMul, reduceLeDiff, reduceLT])
    have h1 := of_ndecide h1
    refine fz_own o rfl fun H o => ?_
    (try simp only [go_sem, ↓reduceIte, reduceEqDiff, reduceAdd, reduceMul, reduceLeDiff, reduceLT])
    exact pure_ret (by rw [hout, show k = c.frm.length by omega]; rfl) o.sub
theorem lazy_ok (B : Nat) (c : Cat) (hs : c.Shape) (x d st : Int) {H0 H : Heap} {l : List (Nat × MObj)} {id : Nat} {K : Kont} (o : Owns H0 H ((id, OutO c x d st .nilsl) :: l))
    (hk : ∀ H' X, LsO iL H0 H' ((id, OutO c x d st X) :: l) X (homs c x c.objs.toNat) → K (.tup []) H') : CallH Tryz.prog B 287 [.ptr [.ref id 0]] H K := by
  refine c287p (by simp) fun _ => ?_
  have ho := hs.o
  unfold s287p
  (try simp only [go_sem, ↓reduceIte, reduceEqDiff, reduceAdd, reduceMul, reduceLeDiff, reduceLT])
  refine awp_for [0] (G := AV) (fun k X => [(1, some (.int .i64 (k : Int)))]) (fun k X H => LsO iL H0 H ((id, OutO c x d st X) :: l) X (homs c x k)) c.objs.toNat .nilsl (.inl ⟨rfl, rfl, o⟩) rfl ?_
  clear o
  rintro k X H hk' o
  have rd : ∀ (off : Nat) (K : Kont), off < 6 → K ([.ptr c.cells, iI x, .int .u32 d, .int .i32 st, .int .u32 0, X].getD off nv) H → rd1 (H.get id) none off K H := fun off K h1 h2 => by
    rcases o with ⟨_, _, o⟩ | ⟨id2, _, o⟩
    · exact rd_cells o (by simpa using h1) h2
    · exact rd_cells o.tl (by simpa using h1) h2
  (try simp only [go_sem, ↓reduceIte, reduceEqDiff, reduceAdd, reduceMul, reduceLeDiff, reduceLT])
  refine rd 0 _ (by omega) ?_
  (try simp only [go_sem, ↓reduceIte, reduceEqDiff, reduceAdd, reduceMul, reduceLeDiff, reduceLT])
  refine ⟨fun h1 => At.mk ?_, fun h1 => At.mk ?_⟩
  · have h1 := of_decide h1
    have w1 := wsucc (k := k) (by omega)
    (try simp only [go_sem, ↓reduceIte, reduceEqDiff, reduceAdd, reduceMul, reduceLeDiff, reduceLT])
    refine rd 5 _ (by omega) ?_
    (try simp only [go_sem, ↓reduceIte, reduceEqDiff, reduceAdd, reduceMul, reduceLeDiff, reduceLT])
    refine rd 0 _ (by omega) ?_
    (try simp only [go_sem, ↓reduceIte, reduceEqDiff, reduceAdd, reduceMul, reduceLeDiff, reduceLT])
    refine rd 1 _ (by omega) ?_
    (try simp only [go_sem, ↓reduceIte, reduceEqDiff, reduceAdd, reduceMul, reduceLeDiff, reduceLT])
    refine ⟨_, (hom_ok B c hs x k).run, ?_⟩
    (try simp only [go_sem, ↓reduceIte, reduceEqDiff, reduceAdd, reduceMul, reduceLeDiff, reduceLT])
    refine o.app (hom c x k) rfl (by rw [homs_len]; simp only [maxL]; omega) fun id2 H o => ?_
    (try simp only [go_sem, ↓reduceIte, reduceEqDiff, reduceAdd, reduceMul, reduceLeDiff, reduceLT])
    refine st_cells o.swap (by simp) (by (try simp only [go_sem]); (try simp)) (by first | (simp only [go_sem]; done) | ((try simp only [go_sem]); simp [AV.one, one_mL])) fun H o => ?_
    simp only [wr_cons, wr_nil, List.set_cons_zero, List.set_cons_succ] at o
    (try simp only [go_sem, ↓reduceIte, reduceEqDiff, reduceAdd, reduceMul, reduceLeDiff, reduceLT, w1])
    refine for_next (.buf id2 (homs c x k ++ [hom c x k]).length) (by omega) (.inr ⟨id2, ?_, ?_⟩) rfl
    · rw [homs_succ]
    · rw [homs_succ]; exact o.swap
  · (try simp only [go_sem, ↓reduceIte, reduceEqDiff, reduceAdd, reduceMul, reduceLeDiff, reduceLT])
    have h1 := of_ndecide h1
    obtain rfl : k = c.objs.toNat := by omega
    exact ⟨_, .refl _, hk _ _ o⟩
end Go.Proofs.Shf
namespace Go.AW
open Go.Proofs Go.Shf Go.Proofs.Shf
theorem LsO.at {α : Type} {f : α → AV} {H0 H : Heap} {l : List (Nat × MObj)} {X : AV} {A : List α} {id : Nat} {a : MObj} (o : LsO f H0 H ((id, a) :: l) X A) :
    H.get id = some a ∧ ∀ b, LsO f H0 (H.set id b) ((id, b) :: l) X A := by
  rcases o with ⟨h1, h2, o⟩ | ⟨id2, h1, o⟩
  · exact ⟨o.h0, fun b => .inl ⟨h1, h2, o.put b⟩⟩
  · exact ⟨o.tl.h0, fun b => .inr ⟨id2, h1, (o.swap.put b).swap⟩⟩
end Go.AW
namespace Go.Proofs.Shf
open Go.AW Go.Proofs Go.Shf
theorem do_first (B : Nat) (c : Cat) (hs : c.Shape) (x : Int) {H0 H : Heap} {l : List (Nat × MObj)} {id : Nat} {K : Kont} (o : Owns H0 H ((id, OutO c x 0 0 .nilsl) :: l))
    (hk : ∀ H' X, LsO iL H0 H' ((id, OutO c x 1 0 X) :: l) X (homs c x c.objs.toNat) → K (.tup []) H') : CallH Tryz.prog B 286 [.ref id 2, .fn (.func 287) [.ptr [.ref id 0]]] H K := by
  refine c286p (by simp) fun _ => ?_
  unfold s286p
  (try simp only [go_sem, ↓reduceIte, reduceEqDiff, reduceAdd, reduceMul, reduceLeDiff, reduceLT])
  refine flag_ok B o.h0 false rfl ?_
  (try simp only [go_sem, ↓reduceIte, reduceEqDiff, reduceAdd, reduceMul, reduceLeDiff, reduceLT])
  refine slow_ok B o.h0 rfl rfl ?_
  refine lazy_ok B c hs x 0 1 (o.put (OutO c x 0 1 .nilsl)) fun H' X o => ⟨rfl, _, o.at.1, rfl, rfl, ?_⟩
  have o := (((o.at).2 (OutO c x 1 1 X)).at).2 (OutO c x 1 0 X)
  (try simp only [go_sem, ↓reduceIte, reduceEqDiff, reduceAdd, reduceMul, reduceLeDiff, reduceLT])
  exact ⟨_, .refl _, hk _ _ o⟩
theorem do_again (B : Nat) (c : Cat) (x : Int) {H0 H : Heap} {l : List (Nat × MObj)} {id : Nat} {X : AV} {K : Kont} (o : Owns H0 H ((id, OutO c x 1 0 X) :: l))
    (hk : K (.tup []) H) : CallH Tryz.prog B 286 [.ref id 2, .fn (.func 287) [.ptr [.ref id 0]]] H K := by
  refine c286p (by simp) fun _ => ?_
  unfold s286p
  (try simp only [go_sem, ↓reduceIte, reduceEqDiff, reduceAdd, reduceMul, reduceLeDiff, reduceLT])
  refine flag_ok B o.h0 true rfl ?_
  (try simp only [go_sem, ↓reduceIte, reduceEqDiff, reduceAdd, reduceMul, reduceLeDiff, reduceLT])
  exact ⟨_, .refl _, hk⟩
theorem list_first (B : Nat) (c : Cat) (hs : c.Shape) (x : Int) {H0 H : Heap} {l : List (Nat × MObj)} {id : Nat} {K : Kont} (o : Owns H0 H ((id, OutO c x 0 0 .nilsl) :: l))
    (hk : ∀ H', Owns H0 H' ((id, OutO c x 1 0 (iLL (homs c x c.objs.toNat))) :: l) → K (iLL (homs c x c.objs.toNat)) H') : CallH Tryz.prog B 215 [.ref id 0] H K := by
  refine c215p (by simp) fun _ => ?_
  unfold s215p
  (try simp only [go_sem, ↓reduceIte, reduceEqDiff, reduceAdd, reduceMul, reduceLeDiff, reduceLT])
  refine ⟨rfl, do_first B c hs x o fun H X o => ?_⟩
  (try simp only [go_sem, ↓reduceIte, reduceEqDiff, reduceAdd, reduceMul, reduceLeDiff, reduceLT])
  refine wk_ls 5 o rfl fun H o => wkW_done ?_
  (try simp only [go_sem, ↓reduceIte, reduceEqDiff, reduceAdd, reduceMul, reduceLeDiff, reduceLT])
  refine rd_cells o (by simp) ?_
  (try simp only [go_sem, ↓reduceIte, reduceEqDiff, reduceAdd, reduceMul, reduceLeDiff, reduceLT])
  exact ⟨_, .refl _, hk _ o⟩
theorem list_again (B : Nat) (c : Cat) (x : Int) (L : List (List Int)) {H0 H : Heap} {l : List (Nat × MObj)} {id : Nat} {K : Kont} (o : Owns H0 H ((id, OutO c x 1 0 (iLL L)) :: l))
    (hk : K (iLL L) H) : CallH Tryz.prog B 215 [.ref id 0] H K := by
  refine c215p (by simp) fun _ => ?_
  unfold s215p
  (try simp only [go_sem, ↓reduceIte, reduceEqDiff, reduceAdd, reduceMul, reduceLeDiff, reduceLT])
  refine ⟨rfl, do_again B c x o ?_⟩
  (try simp only [go_sem, ↓reduceIte, reduceEqDiff, reduceAdd, reduceMul, reduceLeDiff, reduceLT])
  refine wkW_done ?_
  (try simp only [go_sem, ↓reduceIte, reduceEqDiff, reduceAdd, reduceMul, reduceLeDiff, reduceLT])
  refine rd_cells o (by simp) ?_
  (try simp only [go_sem, ↓reduceIte, reduceEqDiff, reduceAdd, reduceMul, reduceLeDiff, reduceLT])
  exact ⟨_, .refl _, hk⟩
def RepO (c : Cat) (X Y : AV) : MObj := .cells 7 [iI c.objs, iL c.frm, iL c.to, iL c.idn, iLL c.comp, X, Y] 0
def zSF : List AV := [.int .i64 0, .nilsl, .nilsl, .nilsl, .nilsl, .nilsl, .nilsl]
def RepQ (c : Cat) (x : Int) (r : AV) : Prop := (RepFew c x ∧ r = .tup [.agg (repF c x).cells, .bool true]) ∨ (¬ RepFew c x ∧ r = .tup [.agg zSF, .bool false])
def sizesN (c : Cat) (x : Int) (n : Nat) : List Int := (List.range n).map (repSize c x)
theorem sizesN_succ (c : Cat) (x : Int) (n : Nat) : sizesN c x (n + 1) = sizesN c x n ++ [repSize c x n] := by simp [sizesN, List.range_succ]
theorem sizesN_len (c : Cat) (x : Int) (n : Nat) : (sizesN c x n).length = n := by simp [sizesN]
def actsN (c : Cat) (x : Int) (n : Nat) : List (List Int) := (List.range n).map (repAct c x)
theorem actsN_succ (c : Cat) (x : Int) (n : Nat) : actsN c x (n + 1) = actsN c x n ++ [repAct c x n] := by simp [actsN, List.range_succ]
theorem actsN_len (c : Cat) (x : Int) (n : Nat) : (actsN c x n).length = n := by simp [actsN]
theorem homs_ix (c : Cat) (x : Int) {n : Nat} {y : Int} (h0 : 0 ≤ y) (h : y.toNat < n) : ix (homs c x n) y = hom c x y := by
  rw [ix, homs_get c x h, Int.toNat_of_nonneg h0]
theorem rd_at {H : Heap} {K : Kont} {id sz fr off : Nat} {cs : List AV} (h : H.get id = some (.cells sz cs fr)) (h1 : off < cs.length) (hk : K (cs.getD off nv) H) : rd1 (H.get id) none off K H := by
  rw [h, rd1_1]; exact ⟨h1, hk⟩
theorem representable_ok (B : Nat) (c : Cat) (hs : c.Shape) (x : Int) : Rets B 105 [.ptr c.cells, iI x] (RepQ c x) := by
  intro H0
  refine c105p (by simp) fun _ => ?_
  have hob := hs.o
  have hm := hs.m
  have htl := hs.tol
  have hcl := hs.cl
  unfold s105p
  have o : Owns H0 H0 [] := .nil _
  (try simp only [go_sem, ↓reduceIte, reduceEqDiff, reduceAdd, reduceMul, reduceLeDiff, reduceLT])
  refine ⟨by simp only [maxL]; omega, newRef_own o fun id4 H o => ?_⟩
  (try simp only [go_sem, ↓reduceIte, reduceEqDiff, reduceAdd, reduceMul, reduceLeDiff, reduceLT])
  refine ⟨by simp only [maxL]; omega, ?_⟩
  refine newRef_own o fun id6 H o => ?_
  (try simp only [go_sem, ↓reduceIte, reduceEqDiff, reduceAdd, reduceMul, reduceLeDiff, reduceLT])
  refine (catCopy_ok B c).go fun _ => ?_
  (try simp only [go_sem, ↓reduceIte, reduceEqDiff, reduceAdd, reduceMul, reduceLeDiff, reduceLT])
  refine ⟨by simp only [maxL]; omega, newRef_own o fun id7 H o => ?_⟩
  (try simp only [go_sem, ↓reduceIte, reduceEqDiff, reduceAdd, reduceMul, reduceLeDiff, reduceLT])
  refine st_cells o (by simp) (by (try simp only [go_sem]); (try simp)) (by first | (simp only [go_sem]; done) | ((try simp only [go_sem]); simp [AV.one, one_mL])) fun H o => ?_
  simp only [wr_cons, wr_nil, List.set_cons_zero, List.set_cons_succ] at o
  (try simp only [go_sem, ↓reduceIte, reduceEqDiff, reduceAdd, reduceMul, reduceLeDiff, reduceLT])
  replace o : Owns H0 H [(id7, RepO c .nilsl .nilsl), (id6, OutO c x 0 0 .nilsl), (id4, .cells 7 zSF 0)] := o
  refine list_first B c hs x o.swap fun H o => ?_
  (try simp only [go_sem, ↓reduceIte, reduceEqDiff, reduceAdd, reduceMul, reduceLeDiff, reduceLT])
  replace o := o.swap
  rw [homs_len]
  refine awp_for [0, 4, 6, 7, 22, 23] (G := AV) (fun k X => [(24, some (.int .i64 (k : Int)))]) (fun k X H => (∀ y : Nat, y < k → (hom c x y).length ≤ 16) ∧ LsO iI H0 H [(id7, RepO c X .nilsl), (id6, OutO c x 1 0 (iLL (homs c x c.objs.toNat))), (id4, .cells 7 zSF 0)] X (sizesN c x k)) c.objs.toNat .nilsl ⟨by simp, .inl ⟨rfl, rfl, o⟩⟩ rfl ?_
  clear o
  rintro k X H hk ⟨hf, o⟩
  (try simp only [go_sem, ↓reduceIte, reduceEqDiff, reduceAdd, reduceMul, reduceLeDiff, reduceLT])
  refine ⟨fun h1 => At.mk ?_, fun h1 => At.mk ?_⟩
  · have h1 := of_decide h1
    have w1 := wsucc (k := k) (by omega)
    (try simp only [go_sem, ↓reduceIte, reduceEqDiff, reduceAdd, reduceMul, reduceLeDiff, reduceLT])
    refine ⟨by rw [homs_len]; exact h1, ?_⟩
    rw [homs_get c x h1]
    (try simp only [go_sem, ↓reduceIte, reduceEqDiff, reduceAdd, reduceMul, reduceLeDiff, reduceLT])
    refine ⟨fun h2 => At.mk ?_, fun h2 => At.mk ?_⟩
    · have h2 := of_decide h2
      (try simp only [go_sem, ↓reduceIte, reduceEqDiff, reduceAdd, reduceMul, reduceLeDiff, reduceLT])
      obtain ⟨p, o, _⟩ := o.split
      have o : Owns H0 H ((id4, .cells 7 zSF 0) :: (p ++ [(id7, RepO c X .nilsl), (id6, OutO c x 1 0 (iLL (homs c x c.objs.toNat)))])) := o.perm (permC fun x => by (try dsimp only); simp only [List.append_eq, List.count_append, List.count_cons, List.count_nil, List.map_nil, List.length_nil, List.length_append, List.length_cons, List.length_set, Nat.zero_add, List.nil_append, iI, iL]; omega)
      refine st_cells o (by simp [zSF]) (by (try simp only [go_sem]); (try simp)) (by first | (simp only [go_sem]; done) | ((try simp only [go_sem]); simp [AV.one, one_mL])) fun H o => ?_
      simp only [zSF] at o
      simp only [wr_cons, wr_nil, List.set_cons_zero, List.set_cons_succ] at o
      have hr2 := o.rc 7 0 (by simp)
      simp only [List.drop_zero] at hr2
      (try simp only [go_sem, ↓reduceIte, reduceEqDiff, reduceAdd, reduceMul, reduceLeDiff, reduceLT])
      rw [hr2]
      (try simp only [go_sem, ↓reduceIte, reduceEqDiff, reduceAdd, reduceMul, reduceLeDiff, reduceLT])
      exact rets_ret (.inr ⟨fun h => by have := h k h1; omega, rfl⟩) o.sub
    · have h2 := of_ndecide h2
      (try simp only [go_sem, ↓reduceIte, reduceEqDiff, reduceAdd, reduceMul, reduceLeDiff, reduceLT])
      refine rd_at o.at.1 (by simp) ?_
      (try simp only [go_sem, ↓reduceIte, reduceEqDiff, reduceAdd, reduceMul, reduceLeDiff, reduceLT])
      refine o.app (repSize c x k) rfl (by rw [sizesN_len]; simp only [maxL]; omega) fun id2 H o => ?_
      (try simp only [go_sem, ↓reduceIte, reduceEqDiff, reduceAdd, reduceMul, reduceLeDiff, reduceLT])
      refine st_cells o.swap (by simp) (by (try simp only [go_sem]); (try simp)) (by first | (simp only [go_sem]; done) | ((try simp only [go_sem]); simp [AV.one, one_mL])) fun H o => ?_
      simp only [wr_cons, wr_nil, List.set_cons_zero, List.set_cons_succ] at o
      (try simp only [go_sem, ↓reduceIte, reduceEqDiff, reduceAdd, reduceMul, reduceLeDiff, reduceLT, w1])
      refine for_next (.buf id2 (sizesN c x k ++ [repSize c x k]).length) (by omega) ⟨fun y hy => ?_, .inr ⟨id2, ?_, ?_⟩⟩ rfl
      · by_cases e : y = k
        · subst e; omega
        · exact hf y (by omega)
      · rw [sizesN_succ]
      · rw [sizesN_succ]; exact o.swap
  · have h1 := of_ndecide h1
    obtain rfl : k = c.objs.toNat := by omega
    have hfew : RepFew c x := hf
    (try simp only [go_sem, ↓reduceIte, reduceEqDiff, reduceAdd, reduceMul, reduceLeDiff, reduceLT])
    refine wk_ls 5 o rfl fun H o => wkW_done ?_
    simp only [wr_cons, wr_nil, List.set_cons_zero, List.set_cons_succ] at o
    replace o : Owns H0 H [(id7, RepO c (iL (repSizes c x)) .nilsl), (id6, OutO c x 1 0 (iLL (homs c x c.objs.toNat))), (id4, .cells 7 zSF 0)] := o
    clear hf
    (try simp only [go_sem, ↓reduceIte, reduceEqDiff, reduceAdd, reduceMul, reduceLeDiff, reduceLT])
    refine awp_for [0, 4, 6, 7, 44] (G := AV) (fun k Y => [(45, some (.int .i64 (k : Int)))]) (fun k Y H => LsO iL H0 H [(id7, RepO c (iL (repSizes c x)) Y), (id6, OutO c x 1 0 (iLL (homs c x c.objs.toNat))), (id4, .cells 7 zSF 0)] Y (actsN c x k)) c.frm.length .nilsl (.inl ⟨rfl, rfl, o⟩) rfl ?_
    clear o hk
    rintro k Y H hk o
    (try simp only [go_sem, ↓reduceIte, reduceEqDiff, reduceAdd, reduceMul, reduceLeDiff, reduceLT])
    refine ⟨fun g1 => At.mk ?_, fun g1 => At.mk ?_⟩
    · have g1 := of_decide g1
      have w1 := wsucc (k := k) (by omega)
      (try simp only [go_sem, ↓reduceIte, reduceEqDiff, reduceAdd, reduceMul, reduceLeDiff, reduceLT])
      obtain ⟨p, o, hp⟩ := o.split
      refine new_list iI o fun id11 H o => ?_
      (try simp only [go_sem, ↓reduceIte, reduceEqDiff, reduceAdd, reduceMul, reduceLeDiff, reduceLT])
      have hfr := hs.frm' g1
      have hto := hs.to' g1
      have hil := hs.il
      have o6 : Owns H0 H ((id6, OutO c x 1 0 (iLL (homs c x c.objs.toNat))) :: ((id11, .cells 1 (([] : List Int).map iI) 0) :: (p ++ [(id7, RepO c (iL (repSizes c x)) Y), (id4, .cells 7 zSF 0)]))) := o.perm (permC fun x => by (try dsimp only); simp only [List.append_eq, List.count_append, List.count_cons, List.count_nil, List.map_nil, List.length_nil, List.length_append, List.length_cons, List.length_set, Nat.zero_add, List.nil_append, iI, iL]; omega)
      refine ⟨g1, list_again B c x _ o6 ⟨.refl _, ?_⟩⟩
      (try simp only [go_sem, ↓reduceIte, reduceEqDiff, reduceAdd, reduceMul, reduceLeDiff, reduceLT])
      refine ⟨⟨hfr.1, by rw [homs_len]; omega⟩, ?_⟩
      rw [homs_ix c x hfr.1 (by omega)]
      generalize hL : hom c x (c.frm.getD k default) = L
      have hLl : L.length ≤ 40 := by rw [← hL]; exact Nat.le_trans (nats_len _ _) hm
      have hLm : ∀ a, a ∈ L → 0 ≤ a ∧ a.toNat < c.frm.length := fun a ha => by rw [← hL] at ha; exact (mem_hom.mp ha).1
      (try simp only [go_sem, ↓reduceIte, reduceEqDiff, reduceAdd, reduceMul, reduceLeDiff, reduceLT])
      refine awp_for [0, 4, 6, 7, 10, 44, 45, 59, 60] (G := Nat × List Int) (fun j g => [(11, some (.buf g.1 g.2.length)), (61, some (.int .i64 (j : Int)))])
        (fun j g H => g.2 = (L.take j).map (fun h => indexOf (hom c x (c.to.getD k default)) (ix (ix c.comp h) k)) ∧ Owns H0 H ((g.1, .cells 1 (g.2.map iI) 0) :: (p ++ [(id7, RepO c (iL (repSizes c x)) Y), (id6, OutO c x 1 0 (iLL (homs c x c.objs.toNat))), (id4, .cells 7 zSF 0)]))) L.length (id11, []) ⟨by simp, o⟩ rfl ?_
      clear o o6
      rintro j ⟨id11, out⟩ H hj ⟨hout, o⟩
      replace hout : out = (L.take j).map (fun h => indexOf (hom c x (c.to.getD k default)) (ix (ix c.comp h) k)) := hout
      replace o : Owns H0 H ((id11, .cells 1 (out.map iI) 0) :: (p ++ [(id7, RepO c (iL (repSizes c x)) Y), (id6, OutO c x 1 0 (iLL (homs c x c.objs.toNat))), (id4, .cells 7 zSF 0)])) := o
      have hol : out.length ≤ j := by rw [hout]; simp; omega
      (try simp only [go_sem, ↓reduceIte, reduceEqDiff, reduceAdd, reduceMul, reduceLeDiff, reduceLT])
      refine ⟨fun g2 => At.mk ?_, fun g2 => At.mk ?_⟩
      · have g2 := of_decide g2
        have w2 := wsucc (k := j) (by omega)
        (try simp only [go_sem, ↓reduceIte, reduceEqDiff, reduceAdd, reduceMul, reduceLeDiff, reduceLT])
        have hLj := hLm _ (mem_getD.mpr ⟨j, g2, rfl⟩)
        refine ⟨g2, ⟨by omega, ?_⟩⟩
        have o6 : Owns H0 H ((id6, OutO c x 1 0 (iLL (homs c x c.objs.toNat))) :: ((id11, .cells 1 (out.map iI) 0) :: (p ++ [(id7, RepO c (iL (repSizes c x)) Y), (id4, .cells 7 zSF 0)]))) := o.perm (permC fun x => by (try dsimp only); simp only [List.append_eq, List.count_append, List.count_cons, List.count_nil, List.map_nil, List.length_nil, List.length_append, List.length_cons, List.length_set, Nat.zero_add, List.nil_append, iI, iL]; omega)
        refine list_again B c x _ o6 ⟨.refl _, ?_⟩
        (try simp only [go_sem, ↓reduceIte, reduceEqDiff, reduceAdd, reduceMul, reduceLeDiff, reduceLT])
        refine ⟨⟨hto.1, by rw [homs_len]; omega⟩, ?_⟩
        rw [homs_ix c x hto.1 (by omega)]
        (try simp only [go_sem, ↓reduceIte, reduceEqDiff, reduceAdd, reduceMul, reduceLeDiff, reduceLT])
        have hr := hs.row' hLj.2
        refine ⟨_, (catThen_ok B c (L.getD j default) k ⟨hLj.1, by omega⟩ ⟨by omega, by rw [Int.toNat_natCast, hr]; exact g1⟩).run, ?_⟩
        (try simp only [go_sem, ↓reduceIte, reduceEqDiff, reduceAdd, reduceMul, reduceLeDiff, reduceLT])
        refine ⟨_, (index_ok ..).run, ?_⟩
        (try simp only [go_sem, ↓reduceIte, reduceEqDiff, reduceAdd, reduceMul, reduceLeDiff, reduceLT])
        refine app_own (indexOf (hom c x (c.to.getD k default)) (ix (ix c.comp (L.getD j default)) k)) o rfl rfl (by simp only [maxL]; omega) fun id11 H o => ?_
        (try simp only [go_sem, ↓reduceIte, reduceEqDiff, reduceAdd, reduceMul, reduceLeDiff, reduceLT, w2])
        exact for_next (_, _) (by omega) ⟨by rw [hout, take_succ' L g2, List.map_append]; rfl, o⟩ rfl
      · have g2 := of_ndecide g2
        obtain rfl : j = L.length := by omega
        (try simp only [go_sem, ↓reduceIte, reduceEqDiff, reduceAdd, reduceMul, reduceLeDiff, reduceLT])
        refine fz_own o rfl fun H o => ?_
        have eo : out = repAct c x k := by rw [hout, List.take_length, ← hL]; rfl
        rw [eo]
        have o := LsO.mk o hp
        (try simp only [go_sem, ↓reduceIte, reduceEqDiff, reduceAdd, reduceMul, reduceLeDiff, reduceLT])
        refine rd_at o.at.1 (by simp) ?_
        (try simp only [go_sem, ↓reduceIte, reduceEqDiff, reduceAdd, reduceMul, reduceLeDiff, reduceLT])
        refine o.app (repAct c x k) rfl (by rw [actsN_len]; simp only [maxL]; omega) fun id2 H o => ?_
        (try simp only [go_sem, ↓reduceIte, reduceEqDiff, reduceAdd, reduceMul, reduceLeDiff, reduceLT])
        refine st_cells o.swap (by simp) (by (try simp only [go_sem]); (try simp)) (by first | (simp only [go_sem]; done) | ((try simp only [go_sem]); simp [AV.one, one_mL])) fun H o => ?_
        simp only [wr_cons, wr_nil, List.set_cons_zero, List.set_cons_succ] at o
        (try simp only [go_sem, ↓reduceIte, reduceEqDiff, reduceAdd, reduceMul, reduceLeDiff, reduceLT, w1])
        refine for_next (.buf id2 (actsN c x k ++ [repAct c x k]).length) (by omega) (.inr ⟨id2, ?_, ?_⟩) rfl
        · rw [actsN_succ]
        · rw [actsN_succ]; exact o.swap
    · have g1 := of_ndecide g1
      obtain rfl : k = c.frm.length := by omega
      (try simp only [go_sem, ↓reduceIte, reduceEqDiff, reduceAdd, reduceMul, reduceLeDiff, reduceLT])
      refine wk_ls 6 o rfl fun H o => wkW_done ?_
      simp only [wr_cons, wr_nil, List.set_cons_zero, List.set_cons_succ] at o
      (try simp only [go_sem, ↓reduceIte, reduceEqDiff, reduceAdd, reduceMul, reduceLeDiff, reduceLT])
      refine rd_celln o (by simp) ?_
      (try simp only [go_sem, ↓reduceIte, reduceEqDiff, reduceAdd, reduceMul, reduceLeDiff, reduceLT])
      refine st_cells (o.pull [_, _]) (by simp [zSF]) (by (try simp only [go_sem]); (try simp)) (by first | (simp only [go_sem]; done) | ((try simp only [go_sem]); simp [AV.one, one_mL])) fun H o => ?_
      simp only [zSF] at o
      simp only [wr_cons, wr_nil, List.set_cons_zero, List.set_cons_succ] at o
      (try simp only [go_sem, ↓reduceIte, reduceEqDiff, reduceAdd, reduceMul, reduceLeDiff, reduceLT])
      have hr2 := o.rc 7 0 (by simp)
      simp only [List.drop_zero] at hr2
      rw [hr2]
      (try simp only [go_sem, ↓reduceIte, reduceEqDiff, reduceAdd, reduceMul, reduceLeDiff, reduceLT])
      exact rets_ret (.inl ⟨hfew, rfl⟩) o.sub
def nilF : SF := { shape := { objs := 0, frm := [], to := [], idn := [], comp := [] }, sizes := [], acts := [] }
def RepQ2 (c : Cat) (x : Int) (r : AV) : Prop := (RepFew c x ∧ r = .tup [.agg (repF c x).cells, iI 0]) ∨ (¬ RepFew c x ∧ r = .tup [.agg nilF.cells, iI 3])
theorem representableG_ok (B : Nat) (c : Cat) (hc : c.Is) (x : Int) (hx : 0 ≤ x ∧ x < c.objs) : Rets B 37 [.agg c.cells, iI x] (RepQ2 c x) := by
  intro H0
  refine c37p (by simp) fun _ => ?_
  unfold s37p
  have o : Owns H0 H0 [] := .nil _
  (try simp only [go_sem, ↓reduceIte, reduceEqDiff, reduceAdd, reduceMul, reduceLeDiff, reduceLT])
  refine ⟨by simp only [maxL]; omega, newRef_own o fun id4 H o => ?_⟩
  (try simp only [go_sem, ↓reduceIte, reduceEqDiff, reduceAdd, reduceMul, reduceLeDiff, reduceLT])
  refine (objectCode_ok B c [x]).go fun _ => ?_
  rw [codeL_0.mpr ⟨hc, by simpa using hx⟩]
  (try simp only [go_sem, ↓reduceIte, reduceEqDiff, reduceAdd, reduceMul, reduceLeDiff, reduceLT, dTrue])
  refine (representable_ok B c hc.1 x).go fun r _ hr => ?_
  rcases hr with ⟨hf, rfl⟩ | ⟨hf, rfl⟩
  · (try simp only [go_sem, ↓reduceIte, reduceEqDiff, reduceAdd, reduceMul, reduceLeDiff, reduceLT])
    refine ⟨by simp only [maxL]; omega, newRef_own o fun id7 H o => ?_⟩
    (try simp only [go_sem, ↓reduceIte, reduceEqDiff, reduceAdd, reduceMul, reduceLeDiff, reduceLT])
    refine st_cells o (by simp) (by (try simp only [go_sem]); (try simp)) (by first | (simp only [go_sem]; done) | ((try simp only [go_sem]); simp [AV.one, one_mL])) fun H o => ?_
    simp only [wr_cons, wr_nil, List.set_cons_zero, List.set_cons_succ] at o
    (try simp only [go_sem, ↓reduceIte, reduceEqDiff, reduceAdd, reduceMul, reduceLeDiff, reduceLT])
    refine rd_celln o (by simp) ?_
    (try simp only [go_sem, ↓reduceIte, reduceEqDiff, reduceAdd, reduceMul, reduceLeDiff, reduceLT])
    refine st_cells o.swap (by simp) (by (try simp only [go_sem]); (try simp)) (by first | (simp only [go_sem]; done) | ((try simp only [go_sem]); simp [AV.one, one_mL])) fun H o => ?_
    simp only [wr_cons, wr_nil, List.set_cons_zero, List.set_cons_succ] at o
    (try simp only [go_sem, ↓reduceIte, reduceEqDiff, reduceAdd, reduceMul, reduceLeDiff, reduceLT])
    refine wkW_done ?_
    (try simp only [go_sem, ↓reduceIte, reduceEqDiff, reduceAdd, reduceMul, reduceLeDiff, reduceLT])
    have hr2 := o.rc 7 0 (by simp)
    simp only [List.drop_zero] at hr2
    rw [hr2]
    (try simp only [go_sem, ↓reduceIte, reduceEqDiff, reduceAdd, reduceMul, reduceLeDiff, reduceLT])
    exact rets_ret (.inl ⟨hf, rfl⟩) o.sub
  · (try simp only [go_sem, ↓reduceIte, reduceEqDiff, reduceAdd, reduceMul, reduceLeDiff, reduceLT])
    refine ⟨by simp only [maxL]; omega, newRef_own o fun id7 H o => ?_⟩
    (try simp only [go_sem, ↓reduceIte, reduceEqDiff, reduceAdd, reduceMul, reduceLeDiff, reduceLT])
    refine st_cells o (by simp) (by simp [zSF]) (by simp [zSF, AV.one]) fun H o => ?_
    simp only [zSF] at o
    simp only [wr_cons, wr_nil, List.set_cons_zero, List.set_cons_succ] at o
    (try simp only [go_sem, ↓reduceIte, reduceEqDiff, reduceAdd, reduceMul, reduceLeDiff, reduceLT])
    refine st_cells o.swap (by simp) (by (try simp only [go_sem]); (try simp)) (by first | (simp only [go_sem]; done) | ((try simp only [go_sem]); simp [AV.one, one_mL])) fun H o => ?_
    simp only [wr_cons, wr_nil, List.set_cons_zero, List.set_cons_succ] at o
    (try simp only [go_sem, ↓reduceIte, reduceEqDiff, reduceAdd, reduceMul, reduceLeDiff, reduceLT])
    refine wk_nil 1 o rfl fun H o => ?_
    refine wk_nil 2 o rfl fun H o => ?_
    refine wk_nil 3 o rfl fun H o => ?_
    refine wk_nil 4 o rfl fun H o => ?_
    refine wk_nil 5 o rfl fun H o => ?_
    refine wk_nil 6 o rfl fun H o => wkW_done ?_
    simp only [wr_cons, wr_nil, List.set_cons_zero, List.set_cons_succ] at o
    (try simp only [go_sem, ↓reduceIte, reduceEqDiff, reduceAdd, reduceMul, reduceLeDiff, reduceLT])
    have hr2 := o.rc 7 0 (by simp)
    simp only [List.drop_zero] at hr2
    rw [hr2]
    (try simp only [go_sem, ↓reduceIte, reduceEqDiff, reduceAdd, reduceMul, reduceLeDiff, reduceLT])
    exact rets_ret (.inr ⟨hf, rfl⟩) o.sub
end Go.Proofs.Shf
namespace Go.AW
def kpr (y d : Int) : AV := .agg [.int .i64 y, .int .i64 d]
theorem kpr_keq (y d y' d' : Int) : (kpr y d).keq (kpr y' d') = (decide (y = y') && decide (d = d')) := rfl
structure PMap (Q : Int → Int → Prop) (ks vs : List AV) : Prop where
  len : vs.length = ks.length
  key : ∀ a, a ∈ ks → ∃ y d, a = kpr y d
  yes : ∀ y d, Q y d → mget (kpr y d) ks vs = some (.bool true)
  non : ∀ y d, ¬ Q y d → mget (kpr y d) ks vs = none
theorem mget_mput_kpr (y d y' d' : Int) (x : AV) : ∀ (ks vs : List AV), vs.length = ks.length → (∀ a, a ∈ ks → ∃ y d, a = kpr y d) →
    mget (kpr y d) (mput (kpr y' d') x ks vs).1 (mput (kpr y' d') x ks vs).2 = if y = y' ∧ d = d' then some x else mget (kpr y d) ks vs
  | [], [], _, _ => by simp [mput, mget, kpr_keq]
  | [], _ :: _, h, _ => by simp at h
  | _ :: _, [], h, _ => by simp at h
  | a :: ks, v :: vs, h, hk => by
    obtain ⟨p, q, rfl⟩ := hk a (by simp)
    have ih := mget_mput_kpr y d y' d' x ks vs (by simpa using h) fun a ha => hk a (by simp [ha])
    simp only [mput, kpr_keq, Bool.and_eq_true, decide_eq_true_eq]
    by_cases e : y' = p ∧ d' = q
    · obtain ⟨rfl, rfl⟩ := e
      simp only [and_self, if_true, mget, kpr_keq, Bool.and_eq_true, decide_eq_true_eq]
      split <;> rfl
    · rw [if_neg e]
      simp only [mget, kpr_keq, Bool.and_eq_true, decide_eq_true_eq]
      by_cases e2 : y = p ∧ d = q
      · obtain ⟨rfl, rfl⟩ := e2
        rw [if_pos ⟨rfl, rfl⟩, if_neg (fun h => e ⟨h.1.symm, h.2.symm⟩), if_pos ⟨rfl, rfl⟩]
      · rw [if_neg e2, if_neg e2, ih]
theorem mput_len (k x : AV) : ∀ (ks vs : List AV), vs.length = ks.length → (mput k x ks vs).2.length = (mput k x ks vs).1.length
  | [], [], _ => rfl
  | [], _ :: _, h => by simp at h
  | _ :: _, [], h => by simp at h
  | a :: ks, v :: vs, h => by
    have := mput_len k x ks vs (by simpa using h)
    simp only [mput]
    split
    · simpa using h
    · simpa using this
theorem mput_key (k x : AV) : ∀ (ks vs : List AV) (a : AV), a ∈ (mput k x ks vs).1 → a = k ∨ a ∈ ks
  | [], vs, a, h => by simp [mput] at h; exact .inl h
  | b :: ks, [], a, h => by simp [mput] at h; exact .inl h
  | b :: ks, v :: vs, a, h => by
    simp only [mput] at h
    split at h
    · rcases List.mem_cons.mp h with h | h
      · exact .inl h
      · exact .inr (List.mem_cons_of_mem _ h)
    · rcases List.mem_cons.mp h with h | h
      · exact .inr (by simp [h])
      · rcases mput_key k x ks vs a h with h | h
        · exact .inl h
        · exact .inr (List.mem_cons_of_mem _ h)
theorem PMap.nil : PMap (fun _ _ => False) [] [] := ⟨rfl, by simp, fun _ _ h => h.elim, fun _ _ _ => rfl⟩
theorem PMap.put {Q : Int → Int → Prop} {ks vs : List AV} (h : PMap Q ks vs) (y d : Int) : PMap (fun y' d' => Q y' d' ∨ (y' = y ∧ d' = d)) (mput (kpr y d) (.bool true) ks vs).1 (mput (kpr y d) (.bool true) ks vs).2 where
  len := mput_len _ _ _ _ h.len
  key a ha := by
    rcases mput_key _ _ _ _ _ ha with rfl | ha
    · exact ⟨y, d, rfl⟩
    · exact h.key a ha
  yes y' d' hq := by
    rw [mget_mput_kpr _ _ _ _ _ _ _ h.len h.key]
    by_cases e : y' = y ∧ d' = d
    · rw [if_pos e]
    · rw [if_neg e]; exact h.yes _ _ (hq.resolve_right e)
  non y' d' hq := by
    rw [mget_mput_kpr _ _ _ _ _ _ _ h.len h.key, if_neg fun e => hq (.inr e)]
    exact h.non _ _ fun e => hq (.inl e)
theorem PMap.congr {Q Q' : Int → Int → Prop} {ks vs : List AV} (h : PMap Q ks vs) (e : ∀ y d, Q y d ↔ Q' y d) : PMap Q' ks vs := by
  have : Q = Q' := funext fun y => funext fun d => propext (e y d)
  rwa [← this]
theorem PMap.ok {Q : Int → Int → Prop} {ks vs : List AV} (h : PMap Q ks vs) (y d : Int) : okKey 2 (kpr y d) ks :=
  ⟨rfl, fun a ha => by obtain ⟨y', d', rfl⟩ := h.key a ha; rfl⟩
theorem PMap.is {Q : Int → Int → Prop} {ks vs : List AV} (h : PMap Q ks vs) (y d : Int) : (mget (kpr y d) ks vs).getD (.bool false) = .bool (dec (Q y d)) := by
  by_cases e : Q y d
  · rw [h.yes _ _ e, dec_t e]; rfl
  · rw [h.non _ _ e, dec_f e]; rfl
end Go.AW
namespace Go.Proofs.Shf
open Go.AW Go.Proofs Go.Shf
theorem holds_ok (B : Nat) (p : List (List Int)) (x e : Int) (hx : 0 ≤ x ∧ x.toNat < p.length) : Pur Tryz.prog B 265 [.agg [iLL p], iI x, iI e] (.bool (dec (e ∈ ix p x))) := by
  refine ⟨fun H0 => c265p (by simp) fun _ => ?_⟩
  unfold s265p
  (try simp only [go_sem, ↓reduceIte, reduceEqDiff, reduceAdd, reduceMul, reduceLeDiff, reduceLT])
  refine ⟨hx, (has_ok ..).go fun _ => ?_⟩
  (try simp only [go_sem, ↓reduceIte, reduceEqDiff, reduceAdd, reduceMul, reduceLeDiff, reduceLT])
  exact pure_ret rfl (.refl _)
def partE (f : SF) (q : Nat → Nat → Bool) (x : Nat) : List Int := nats (q x) (f.sizes.getD x default).toNat
def partN (f : SF) (q : Nat → Nat → Bool) (n : Nat) : List (List Int) := (List.range n).map (partE f q)
theorem partN_succ (f : SF) (q : Nat → Nat → Bool) (n : Nat) : partN f q (n + 1) = partN f q n ++ [partE f q n] := by simp [partN, List.range_succ]
theorem partN_len (f : SF) (q : Nat → Nat → Bool) (n : Nat) : (partN f q n).length = n := by simp [partN]
theorem partOf_ok (B : Nat) (f : SF) (hl : f.sizes.length ≤ 8) (hz : ∀ y, y ∈ f.sizes → 0 ≤ y ∧ y < 17) (F : FuncId) (ca : List AV) (q : Nat → Nat → Bool) (H0 : Heap)
    (hq : ∀ x e : Nat, x < f.sizes.length → (e : Int) < f.sizes.getD x default → ∀ H, H0.sub H → CallH Tryz.prog B F ([iI x, iI e] ++ ca) H fun r H' => r = .bool (q x e) ∧ H' = H) :
    CallH Tryz.prog B 136 [.ptr f.cells, .fn (.func F) ca] H0 fun r H' => r = .agg [iLL (partF f q)] ∧ H' = H0 := by
  refine c136p (by simp) fun _ => ?_
  unfold s136p
  have o : Owns H0 H0 [] := .nil _
  (try simp only [go_sem, ↓reduceIte, reduceEqDiff, reduceAdd, reduceMul, reduceLeDiff, reduceLT])
  refine newRef_own o fun id4 H o => ?_
  (try simp only [go_sem, ↓reduceIte, reduceEqDiff, reduceAdd, reduceMul, reduceLeDiff, reduceLT])
  refine newRef_own o fun id5 H o => ?_
  (try simp only [go_sem, ↓reduceIte, reduceEqDiff, reduceAdd, reduceMul, reduceLeDiff, reduceLT])
  refine st_cells o (by simp) (by (try simp only [go_sem]); (try simp)) (by first | (simp only [go_sem]; done) | ((try simp only [go_sem]); simp [AV.one, one_mL])) fun H o => ?_
  simp only [wr_cons, wr_nil, List.set_cons_zero, List.set_cons_succ] at o
  (try simp only [go_sem, ↓reduceIte, reduceEqDiff, reduceAdd, reduceMul, reduceLeDiff, reduceLT])
  refine awp_for [1, 4, 5, 14, 15] (G := AV) (fun k X => [(16, some (.int .i64 (k : Int)))]) (fun k X H => LsO iL H0 H [(id5, .cells 1 [X] 0), (id4, .cells 1 [.nilsl] 0)] X (partN f q k)) f.sizes.length .nilsl (.inl ⟨rfl, rfl, o⟩) rfl ?_
  clear o
  rintro k X H hk o
  (try simp only [go_sem, ↓reduceIte, reduceEqDiff, reduceAdd, reduceMul, reduceLeDiff, reduceLT])
  refine ⟨fun h1 => At.mk ?_, fun h1 => At.mk ?_⟩
  · have h1 := of_decide h1
    have w1 := wsucc (k := k) (by omega)
    have hsz := hz _ (mem_getD.mpr ⟨k, h1, rfl⟩)
    obtain ⟨n, hn⟩ : ∃ n : Nat, f.sizes.getD k default = n := ⟨_, (Int.toNat_of_nonneg hsz.1).symm⟩
    rw [hn] at hsz
    (try simp only [go_sem, ↓reduceIte, reduceEqDiff, reduceAdd, reduceMul, reduceLeDiff, reduceLT])
    refine ⟨h1, ?_⟩
    rw [hn]
    (try simp only [go_sem, ↓reduceIte, reduceEqDiff, reduceAdd, reduceMul, reduceLeDiff, reduceLT])
    obtain ⟨p, o, hp⟩ := o.split
    refine new_list iI o fun id8 H o => ?_
    (try simp only [go_sem, ↓reduceIte, reduceEqDiff, reduceAdd, reduceMul, reduceLeDiff, reduceLT])
    refine awp_for [1, 4, 5, 6, 14, 15, 16, 22] (G := Nat × List Int) (fun e g => [(8, some (.buf g.1 g.2.length)), (23, some (.int .i64 (e : Int)))])
      (fun e g H => g.2 = nats (q k) e ∧ Owns H0 H ((g.1, .cells 1 (g.2.map iI) 0) :: (p ++ [(id5, .cells 1 [X] 0), (id4, .cells 1 [.nilsl] 0)]))) n (id8, []) ⟨by simp, o⟩ rfl ?_
    clear o
    rintro e ⟨id8, out⟩ H he ⟨hout, o⟩
    replace hout : out = nats (q k) e := hout
    replace o : Owns H0 H ((id8, .cells 1 (out.map iI) 0) :: (p ++ [(id5, .cells 1 [X] 0), (id4, .cells 1 [.nilsl] 0)])) := o
    have hol : out.length ≤ e := by rw [hout]; exact nats_len _ _
    (try simp only [go_sem, ↓reduceIte, reduceEqDiff, reduceAdd, reduceMul, reduceLeDiff, reduceLT])
    refine ⟨fun h2 => At.mk ?_, fun h2 => At.mk ?_⟩
    · have h2 := of_decide h2
      have w2 := wsucc (k := e) (by omega)
      (try simp only [go_sem, ↓reduceIte, reduceEqDiff, reduceAdd, reduceMul, reduceLeDiff, reduceLT])
      refine (hq k e h1 (by rw [hn]; omega) H o.sub).mono fun r H' ⟨e1, e2⟩ => ?_
      subst e1
      subst e2
      (try simp only [go_sem, ↓reduceIte, reduceEqDiff, reduceAdd, reduceMul, reduceLeDiff, reduceLT])
      refine ⟨fun h3 => At.mk ?_, fun h3 => At.mk ?_⟩
      · (try simp only [go_sem, ↓reduceIte, reduceEqDiff, reduceAdd, reduceMul, reduceLeDiff, reduceLT])
        refine app_own (e : Int) o rfl rfl (by simp only [maxL]; omega) fun id8 H o => ?_
        (try simp only [go_sem, ↓reduceIte, reduceEqDiff, reduceAdd, reduceMul, reduceLeDiff, reduceLT, w2])
        exact for_next (_, _) (by omega) ⟨by rw [hout, nats_t h3], o⟩ rfl
      · (try simp only [go_sem, ↓reduceIte, reduceEqDiff, reduceAdd, reduceMul, reduceLeDiff, reduceLT, w2])
        exact for_next (_, _) (by omega) ⟨by rw [hout, nats_f h3], o⟩ rfl
    · have h2 := of_ndecide h2
      obtain rfl : e = n := by omega
      (try simp only [go_sem, ↓reduceIte, reduceEqDiff, reduceAdd, reduceMul, reduceLeDiff, reduceLT])
      refine fz_own o rfl fun H o => ?_
      have eo : out = partE f q k := by rw [hout, partE, hn]; rfl
      rw [eo]
      have o := LsO.mk o hp
      (try simp only [go_sem, ↓reduceIte, reduceEqDiff, reduceAdd, reduceMul, reduceLeDiff, reduceLT])
      refine rd_at o.at.1 (by simp) ?_
      (try simp only [go_sem, ↓reduceIte, reduceEqDiff, reduceAdd, reduceMul, reduceLeDiff, reduceLT])
      refine o.app (partE f q k) rfl (by rw [partN_len]; simp only [maxL]; omega) fun id2 H o => ?_
      (try simp only [go_sem, ↓reduceIte, reduceEqDiff, reduceAdd, reduceMul, reduceLeDiff, reduceLT])
      refine st_cells o.swap (by simp) (by (try simp only [go_sem]); (try simp)) (by first | (simp only [go_sem]; done) | ((try simp only [go_sem]); simp [AV.one, one_mL])) fun H o => ?_
      simp only [wr_cons, wr_nil, List.set_cons_zero, List.set_cons_succ] at o
      (try simp only [go_sem, ↓reduceIte, reduceEqDiff, reduceAdd, reduceMul, reduceLeDiff, reduceLT, w1])
      refine for_next (.buf id2 (partN f q k ++ [partE f q k]).length) (by omega) (.inr ⟨id2, ?_, ?_⟩) rfl
      · rw [partN_succ]
      · rw [partN_succ]; exact o.swap
  · have h1 := of_ndecide h1
    obtain rfl : k = f.sizes.length := by omega
    (try simp only [go_sem, ↓reduceIte, reduceEqDiff, reduceAdd, reduceMul, reduceLeDiff, reduceLT])
    refine wk_ls 0 o rfl fun H o => wkW_done ?_
    simp only [wr_cons, wr_nil, List.set_cons_zero, List.set_cons_succ] at o
    (try simp only [go_sem, ↓reduceIte, reduceEqDiff, reduceAdd, reduceMul, reduceLeDiff, reduceLT])
    refine rd_celln o (by simp) ?_
    (try simp only [go_sem, ↓reduceIte, reduceEqDiff, reduceAdd, reduceMul, reduceLeDiff, reduceLT])
    refine st_cells o.swap (by simp) (by (try simp only [go_sem]); (try simp)) (by first | (simp only [go_sem]; done) | ((try simp only [go_sem]); simp [AV.one, one_mL])) fun H o => ?_
    simp only [wr_cons, wr_nil, List.set_cons_zero, List.set_cons_succ] at o
    (try simp only [go_sem, ↓reduceIte, reduceEqDiff, reduceAdd, reduceMul, reduceLeDiff, reduceLT])
    have hr2 := o.rc 1 0 (by simp)
    simp only [List.drop_zero] at hr2
    rw [hr2]
    (try simp only [go_sem, ↓reduceIte, reduceEqDiff, reduceAdd, reduceMul, reduceLeDiff, reduceLT])
    exact rets_ret rfl o.sub
theorem none_ok (B : Nat) (f : SF) (h : f.Shape) : Pur Tryz.prog B 217 [.ptr f.cells] (.agg [iLL (noneF f)]) := by
  refine ⟨fun H0 => c217p (by simp) fun _ => ?_⟩
  have ho := h.is.1.o
  have hsl := h.sl
  unfold s217p
  have o : Owns H0 H0 [] := .nil _
  (try simp only [go_sem, ↓reduceIte, reduceEqDiff, reduceAdd, reduceMul, reduceLeDiff, reduceLT])
  refine newRef_own o fun id2 H o => ?_
  (try simp only [go_sem, ↓reduceIte, reduceEqDiff, reduceAdd, reduceMul, reduceLeDiff, reduceLT])
  refine (partOf_ok B f (by omega) h.sz 289 [] (fun _ _ => false) H fun x e hx he H hs => ?_).mono fun r H' ⟨e1, e2⟩ => ?_
  · refine c289p (by simp) fun _ => ?_
    unfold s289p
    (try simp only [go_sem, ↓reduceIte, reduceEqDiff, reduceAdd, reduceMul, reduceLeDiff, reduceLT])
    exact ⟨_, .refl _, rfl, rfl⟩
  subst e1
  subst e2
  (try simp only [go_sem, ↓reduceIte, reduceEqDiff, reduceAdd, reduceMul, reduceLeDiff, reduceLT])
  refine st_cells o (by simp) (by (try simp only [go_sem]); (try simp)) (by first | (simp only [go_sem]; done) | ((try simp only [go_sem]); simp [AV.one, one_mL])) fun H o => ?_
  simp only [wr_cons, wr_nil, List.set_cons_zero, List.set_cons_succ] at o
  (try simp only [go_sem, ↓reduceIte, reduceEqDiff, reduceAdd, reduceMul, reduceLeDiff, reduceLT])
  have hr2 := o.rc 1 0 (by simp)
  simp only [List.drop_zero] at hr2
  rw [hr2]
  (try simp only [go_sem, ↓reduceIte, reduceEqDiff, reduceAdd, reduceMul, reduceLeDiff, reduceLT])
  exact rets_ret rfl o.sub
theorem join_ok (B : Nat) (f : SF) (h : f.Shape) (p q : List (List Int)) (hp : p.length = f.sizes.length) (hq : q.length = f.sizes.length) : Pur Tryz.prog B 218 [.ptr f.cells, .agg [iLL p], .agg [iLL q]] (.agg [iLL (joinF f p q)]) := by
  refine ⟨fun H0 => c218p (by simp) fun _ => ?_⟩
  have ho := h.is.1.o
  have hsl := h.sl
  unfold s218p
  have o : Owns H0 H0 [] := .nil _
  (try simp only [go_sem, ↓reduceIte, reduceEqDiff, reduceAdd, reduceMul, reduceLeDiff, reduceLT])
  refine newRef_own o fun id2 H o => ?_
  (try simp only [go_sem, ↓reduceIte, reduceEqDiff, reduceAdd, reduceMul, reduceLeDiff, reduceLT])
  refine (partOf_ok B f (by omega) h.sz 290 [.ptr [iLL p], .ptr [iLL q]] (fun x e => decide ((e : Int) ∈ p.getD x default) || decide ((e : Int) ∈ q.getD x default)) H fun x e hx he H hs => ?_).mono fun r H' ⟨e1, e2⟩ => ?_
  · refine c290p (by simp) fun _ => ?_
    unfold s290p
    (try simp only [go_sem, ↓reduceIte, reduceEqDiff, reduceAdd, reduceMul, reduceLeDiff, reduceLT])
    refine (holds_ok B p x e ⟨by omega, by simp; omega⟩).go fun _ => ?_
    (try simp only [go_sem, ↓reduceIte, reduceEqDiff, reduceAdd, reduceMul, reduceLeDiff, reduceLT])
    refine ⟨fun h1 => At.mk ?_, fun h1 => At.mk ?_⟩
    · (try simp only [go_sem, ↓reduceIte, reduceEqDiff, reduceAdd, reduceMul, reduceLeDiff, reduceLT, h1])
      refine (holds_ok B q x e ⟨by omega, by simp; omega⟩).go fun _ => ?_
      (try simp only [go_sem, ↓reduceIte, reduceEqDiff, reduceAdd, reduceMul, reduceLeDiff, reduceLT])
      exact ⟨_, .refl _, by rw [decide_dec, h1, decide_dec]; rfl, rfl⟩
    · (try simp only [go_sem, ↓reduceIte, reduceEqDiff, reduceAdd, reduceMul, reduceLeDiff, reduceLT, h1])
      exact ⟨_, .refl _, by rw [decide_dec, h1]; rfl, rfl⟩
  subst e1
  subst e2
  (try simp only [go_sem, ↓reduceIte, reduceEqDiff, reduceAdd, reduceMul, reduceLeDiff, reduceLT])
  refine st_cells o (by simp) (by (try simp only [go_sem]); (try simp)) (by first | (simp only [go_sem]; done) | ((try simp only [go_sem]); simp [AV.one, one_mL])) fun H o => ?_
  simp only [wr_cons, wr_nil, List.set_cons_zero, List.set_cons_succ] at o
  (try simp only [go_sem, ↓reduceIte, reduceEqDiff, reduceAdd, reduceMul, reduceLeDiff, reduceLT])
  have hr2 := o.rc 1 0 (by simp)
  simp only [List.drop_zero] at hr2
  rw [hr2]
  (try simp only [go_sem, ↓reduceIte, reduceEqDiff, reduceAdd, reduceMul, reduceLeDiff, reduceLT])
  exact rets_ret rfl o.sub
def genB (f : SF) (x e : Int) (y d : Nat) : Bool := (outs f.shape x).any fun a => decide (ix f.shape.to a = (y : Int)) && decide (ix (ix f.acts a) e = (d : Int))
theorem genB_iff {f : SF} {x e : Int} {y d : Nat} : genB f x e y d = true ↔ ∃ a, a ∈ outs f.shape x ∧ ix f.shape.to a = (y : Int) ∧ ix (ix f.acts a) e = (d : Int) := by
  simp only [genB, List.any_eq_true, Bool.and_eq_true, decide_eq_true_eq]
theorem generated_ok (B : Nat) (f : SF) (h : f.Shape) (x : Nat) (hx : x < f.sizes.length) (e : Nat) (he : (e : Int) < f.sizes.getD x default) : Pur Tryz.prog B 219 [.ptr f.cells, iLL [[(x : Int), (e : Int)]]] (.agg [iLL (genF f x e)]) := by
  refine ⟨fun H0 => c219p (by simp) fun _ => ?_⟩
  have ho := h.is.1.o
  have hm := h.is.1.m
  have htl := h.is.1.tol
  have hsl := h.sl
  have hal := h.al
  unfold s219p
  have o : Owns H0 H0 [] := .nil _
  (try simp only [go_sem, ↓reduceIte, reduceEqDiff, reduceAdd, reduceMul, reduceLeDiff, reduceLT])
  refine newRef_own o fun id4 H o => ?_
  (try simp only [go_sem, ↓reduceIte, reduceEqDiff, reduceAdd, reduceMul, reduceLeDiff, reduceLT])
  refine newMap_own o fun idm H o => ?_
  (try simp only [go_sem, ↓reduceIte, reduceEqDiff, reduceAdd, reduceMul, reduceLeDiff, reduceLT])
  refine newRef_own o fun id5 H o => ?_
  (try simp only [go_sem, ↓reduceIte, reduceEqDiff, reduceAdd, reduceMul, reduceLeDiff, reduceLT])
  refine st_cells o (by simp) rfl (by simp [AV.cells, AV.one]) fun H o => ?_
  replace o : Owns H0 H [(id5, .cells 1 [.mref idm] 0), (idm, .map [] []), (id4, .cells 1 [.nilsl] 0)] := o
  (try simp only [go_sem, ↓reduceIte, reduceEqDiff, reduceAdd, reduceMul, reduceLeDiff, reduceLT])
  generalize hL : outs f.shape x = L
  have hLm : ∀ a, a ∈ L → (0 ≤ a ∧ a.toNat < f.shape.frm.length) ∧ ix f.shape.frm a = x := fun a ha => by rw [← hL] at ha; have := mem_outs.mp ha; exact ⟨⟨this.1, this.2.1⟩, this.2.2⟩
  have hLl : L.length ≤ 40 := by
    rw [← hL, outs, List.length_map]
    refine Nat.le_trans (List.length_filter_le _ _) ?_
    rw [List.length_range]; omega
  refine awp_for [0, 4, 5, 11, 12] (G := List AV × List AV) (fun k _ => [(13, some (.int .i64 (k : Int)))])
    (fun k g H => PMap (fun y d => 0 < k ∧ ∃ i, i < L.length ∧ ix f.shape.to (L.getD i default) = y ∧ ix (ix f.acts (L.getD i default)) e = d) g.1 g.2 ∧ Owns H0 H [(id5, .cells 1 [.mref idm] 0), (idm, .map g.1 g.2), (id4, .cells 1 [.nilsl] 0)]) 1 ([], []) ⟨by simpa using PMap.nil, o⟩ rfl ?_
  clear o
  rintro k ⟨ks, vs⟩ H hk ⟨hP, o⟩
  replace hP : PMap (fun y d => 0 < k ∧ ∃ i, i < L.length ∧ ix f.shape.to (L.getD i default) = y ∧ ix (ix f.acts (L.getD i default)) e = d) ks vs := hP
  replace o : Owns H0 H [(id5, .cells 1 [.mref idm] 0), (idm, .map ks vs), (id4, .cells 1 [.nilsl] 0)] := o
  (try simp only [go_sem, ↓reduceIte, reduceEqDiff, reduceAdd, reduceMul, reduceLeDiff, reduceLT])
  refine ⟨fun h1 => At.mk ?_, fun h1 => At.mk ?_⟩
  · have h1 := of_decide h1
    obtain rfl : k = 0 := by simp at h1; omega
    (try simp only [go_sem, ↓reduceIte, reduceEqDiff, reduceAdd, reduceMul, reduceLeDiff, reduceLT])
    rw [show ix [(x : Int), (e : Int)] 0 = x from rfl]
    refine ⟨by decide, _, (outOf_ok B f.shape x).run, ?_⟩
    rw [hL]
    (try simp only [go_sem, ↓reduceIte, reduceEqDiff, reduceAdd, reduceMul, reduceLeDiff, reduceLT])
    have hP : PMap (fun y d => ∃ i, i < 0 ∧ ix f.shape.to (L.getD i default) = y ∧ ix (ix f.acts (L.getD i default)) e = d) ks vs := by simpa using hP
    refine awp_for [0, 4, 5, 7, 11, 12, 13, 23, 24] (G := List AV × List AV) (fun j _ => [(25, some (.int .i64 (j : Int)))])
      (fun j g H => PMap (fun y d => ∃ i, i < j ∧ ix f.shape.to (L.getD i default) = y ∧ ix (ix f.acts (L.getD i default)) e = d) g.1 g.2 ∧ Owns H0 H [(id5, .cells 1 [.mref idm] 0), (idm, .map g.1 g.2), (id4, .cells 1 [.nilsl] 0)]) L.length (ks, vs) ⟨hP, o⟩ rfl ?_
    clear o hP
    rintro j ⟨ks, vs⟩ H hj ⟨hP, o⟩
    replace hP : PMap (fun y d => ∃ i, i < j ∧ ix f.shape.to (L.getD i default) = y ∧ ix (ix f.acts (L.getD i default)) e = d) ks vs := hP
    replace o : Owns H0 H [(id5, .cells 1 [.mref idm] 0), (idm, .map ks vs), (id4, .cells 1 [.nilsl] 0)] := o
    (try simp only [go_sem, ↓reduceIte, reduceEqDiff, reduceAdd, reduceMul, reduceLeDiff, reduceLT])
    refine ⟨fun h2 => At.mk ?_, fun h2 => At.mk ?_⟩
    · have h2 := of_decide h2
      have w2 := wsucc (k := j) (by omega)
      obtain ⟨ha, hax⟩ := hLm _ (mem_getD.mpr ⟨j, h2, rfl⟩)
      have hact := h.actOk (e := e) ha ⟨by omega, by rw [hax, ix_nat]; exact he⟩
      (try simp only [go_sem, ↓reduceIte, reduceEqDiff, reduceAdd, reduceMul, reduceLeDiff, reduceLT])
      refine ⟨h2, ?_⟩
      (try simp only [go_sem, ↓reduceIte, reduceEqDiff, reduceAdd, reduceMul, reduceLeDiff, reduceLT])
      refine rd_cells o (by simp) ?_
      (try simp only [go_sem, ↓reduceIte, reduceEqDiff, reduceAdd, reduceMul, reduceLeDiff, reduceLT])
      refine ⟨⟨ha.1, by omega⟩, ⟨ha.1, by omega⟩, by decide, ?_⟩
      rw [show ix [(x : Int), (e : Int)] 1 = e from rfl]
      (try simp only [go_sem, ↓reduceIte, reduceEqDiff, reduceAdd, reduceMul, reduceLeDiff, reduceLT])
      refine ⟨hact.1, ?_⟩
      have hg : H.get idm = some (.map ks vs) := o.swap.h0
      rw [hg]
      refine ⟨hP.ok _ _, ?_⟩
      have o := (o.swap.put (.map (mput (kpr (ix f.shape.to (L.getD j default)) ((ix f.acts (L.getD j default)).getD e default)) (.bool true) ks vs).1 (mput (kpr (ix f.shape.to (L.getD j default)) ((ix f.acts (L.getD j default)).getD e default)) (.bool true) ks vs).2)).swap
      (try simp only [go_sem, ↓reduceIte, reduceEqDiff, reduceAdd, reduceMul, reduceLeDiff, reduceLT, w2])
      refine for_next (_, _) h2 ⟨(hP.put _ _).congr fun y d => ?_, o⟩ rfl
      constructor
      · rintro (⟨i, hi, h3⟩ | ⟨e1, e2⟩)
        · exact ⟨i, by omega, h3⟩
        · exact ⟨j, by omega, e1.symm, e2.symm⟩
      · rintro ⟨i, hi, e1, e2⟩
        by_cases e3 : i = j
        · subst e3; exact .inr ⟨e1.symm, e2.symm⟩
        · exact .inl ⟨i, by omega, e1, e2⟩
    · have h2 := of_ndecide h2
      obtain rfl : j = L.length := by omega
      have w1 := wsucc (k := 0) (by omega)
      (try simp only [go_sem, ↓reduceIte, reduceEqDiff, reduceAdd, reduceMul, reduceLeDiff, reduceLT, w1])
      exact for_next (ks, vs) (by decide) ⟨hP.congr fun y d => ⟨fun h => ⟨by omega, h⟩, fun h => h.2⟩, o⟩ rfl
  · have h1 := of_ndecide h1
    obtain rfl : k = 1 := by simp at h1; omega
    (try simp only [go_sem, ↓reduceIte, reduceEqDiff, reduceAdd, reduceMul, reduceLeDiff, reduceLT])
    refine (partOf_ok B f (by omega) h.sz 291 [.ref id5 0] (genB f x e) H fun y d hy hd H hs => ?_).mono fun r H' ⟨e1, e2⟩ => ?_
    · refine c291p (by simp) fun _ => ?_
      unfold s291p
      (try simp only [go_sem, ↓reduceIte, reduceEqDiff, reduceAdd, reduceMul, reduceLeDiff, reduceLT])
      refine rd_at (hs _ _ o.h0) (by simp) ?_
      (try simp only [go_sem, ↓reduceIte, reduceEqDiff, reduceAdd, reduceMul, reduceLeDiff, reduceLT])
      have hg := hs _ _ o.swap.h0
      simp only at hg
      rw [hg]
      refine ⟨hP.ok y d, ?_⟩
      have hv := hP.is y d
      simp only [kpr] at hv
      simp only [lkR]
      (try simp only [go_sem, ↓reduceIte, reduceEqDiff, reduceAdd, reduceMul, reduceLeDiff, reduceLT, hv])
      refine ⟨_, .refl _, ?_, rfl⟩
      simp only [Bool.false_eq_true, if_false]
      congr 1
      rw [Bool.eq_iff_iff, dec_iff, genB_iff, hL]
      constructor
      · rintro ⟨i, hi, e1, e2⟩; exact ⟨_, mem_getD.mpr ⟨i, hi, rfl⟩, e1, e2⟩
      · rintro ⟨a, ha, e1, e2⟩; obtain ⟨i, hi, rfl⟩ := mem_getD.mp ha; exact ⟨i, hi, e1, e2⟩
    subst e1
    subst e2
    (try simp only [go_sem, ↓reduceIte, reduceEqDiff, reduceAdd, reduceMul, reduceLeDiff, reduceLT])
    refine st_cells (o.pull [_, _]) (by simp) (by (try simp only [go_sem]); (try simp)) (by first | (simp only [go_sem]; done) | ((try simp only [go_sem]); simp [AV.one, one_mL])) fun H o => ?_
    simp only [wr_cons, wr_nil, List.set_cons_zero, List.set_cons_succ] at o
    (try simp only [go_sem, ↓reduceIte, reduceEqDiff, reduceAdd, reduceMul, reduceLeDiff, reduceLT])
    have hr2 := o.rc 1 0 (by simp)
    simp only [List.drop_zero] at hr2
    rw [hr2]
    (try simp only [go_sem, ↓reduceIte, reduceEqDiff, reduceAdd, reduceMul, reduceLeDiff, reduceLT])
    exact rets_ret rfl o.sub
end Go.Proofs.Shf
namespace Go.Shf
open Go.AW
def pairsE (x e : Nat) : List Int := [(x : Int), (e : Int)]
def pairsX (x n : Nat) : List (List Int) := (List.range n).map (pairsE x)
theorem pairsX_succ (x n : Nat) : pairsX x (n + 1) = pairsX x n ++ [pairsE x n] := by simp [pairsX, List.range_succ]
def pairsN (f : SF) : Nat → List (List Int)
  | 0 => []
  | x + 1 => pairsN f x ++ pairsX x (f.sizes.getD x default).toNat
def pairsF (f : SF) : List (List Int) := pairsN f f.sizes.length
theorem mem_pairsN {f : SF} {p : List Int} : ∀ {n : Nat}, p ∈ pairsN f n ↔ ∃ x e : Nat, x < n ∧ e < (f.sizes.getD x default).toNat ∧ p = pairsE x e
  | 0 => by simp [pairsN]
  | n + 1 => by
    simp only [pairsN, List.mem_append, mem_pairsN (n := n), pairsX, List.mem_map, List.mem_range]
    constructor
    · rintro (⟨x, e, h1, h2, h3⟩ | ⟨e, h2, h3⟩)
      · exact ⟨x, e, by omega, h2, h3⟩
      · exact ⟨n, e, by omega, h2, h3.symm⟩
    · rintro ⟨x, e, h1, h2, h3⟩
      by_cases hx : x = n
      · subst hx; exact .inr ⟨e, h2, h3.symm⟩
      · exact .inl ⟨x, e, by omega, h2, h3⟩
theorem pairsN_len {f : SF} (hz : ∀ y, y ∈ f.sizes → 0 ≤ y ∧ y < 17) : ∀ {n : Nat}, n ≤ f.sizes.length → (pairsN f n).length ≤ 16 * n
  | 0, _ => by simp [pairsN]
  | n + 1, h => by
    have := pairsN_len hz (n := n) (by omega)
    have := hz _ (mem_getD.mpr ⟨n, by omega, rfl⟩)
    simp only [pairsN, pairsX, List.length_append, List.length_map, List.length_range]
    omega
end Go.Shf
namespace Go.Proofs.Shf
open Go.AW Go.Proofs Go.Shf
theorem pairs_ok (B : Nat) (f : SF) (hl : f.sizes.length ≤ 8) (hz : ∀ y, y ∈ f.sizes → 0 ≤ y ∧ y < 17) : Pur Tryz.prog B 190 [.ptr f.cells] (iLL (pairsF f)) := by
  refine ⟨fun H0 => c190p (by simp) fun _ => ?_⟩
  unfold s190p
  have o : Owns H0 H0 [] := .nil _
  (try simp only [go_sem, ↓reduceIte, reduceEqDiff, reduceAdd, reduceMul, reduceLeDiff, reduceLT])
  refine new_list iL o fun id3 H o => ?_
  (try simp only [go_sem, ↓reduceIte, reduceEqDiff, reduceAdd, reduceMul, reduceLeDiff, reduceLT])
  refine awp_for [11, 12] (G := Nat × List (List Int)) (fun k g => [(3, some (.buf g.1 g.2.length)), (13, some (.int .i64 (k : Int)))]) (fun k g H => g.2 = pairsN f k ∧ Owns H0 H [(g.1, .cells 1 (g.2.map iL) 0)]) f.sizes.length (id3, []) ⟨rfl, o⟩ rfl ?_
  clear o
  rintro k ⟨id3, out⟩ H hk ⟨hout, o⟩
  replace hout : out = pairsN f k := hout
  replace o : Owns H0 H [(id3, .cells 1 (out.map iL) 0)] := o
  (try simp only [go_sem, ↓reduceIte, reduceEqDiff, reduceAdd, reduceMul, reduceLeDiff, reduceLT])
  refine ⟨fun h1 => At.mk ?_, fun h1 => At.mk ?_⟩
  · have h1 := of_decide h1
    have w1 := wsucc (k := k) (by omega)
    have hsz := hz _ (mem_getD.mpr ⟨k, h1, rfl⟩)
    obtain ⟨n, hn⟩ : ∃ n : Nat, f.sizes.getD k default = n := ⟨_, (Int.toNat_of_nonneg hsz.1).symm⟩
    rw [hn] at hsz
    have hlN := pairsN_len hz hk
    (try simp only [go_sem, ↓reduceIte, reduceEqDiff, reduceAdd, reduceMul, reduceLeDiff, reduceLT])
    refine ⟨h1, ?_⟩
    rw [hn]
    (try simp only [go_sem, ↓reduceIte, reduceEqDiff, reduceAdd, reduceMul, reduceLeDiff, reduceLT])
    refine awp_for [4, 5, 11, 12, 13] (G := Nat × List (List Int)) (fun e g => [(3, some (.buf g.1 g.2.length)), (6, some (.int .i64 (e : Int)))]) (fun e g H => g.2 = pairsN f k ++ pairsX k e ∧ Owns H0 H [(g.1, .cells 1 (g.2.map iL) 0)]) n (id3, out) ⟨by simp [hout, pairsX], o⟩ rfl ?_
    clear o hout
    rintro e ⟨id3, out⟩ H he ⟨hout, o⟩
    replace hout : out = pairsN f k ++ pairsX k e := hout
    replace o : Owns H0 H [(id3, .cells 1 (out.map iL) 0)] := o
    have hol : out.length ≤ 16 * k + e := by rw [hout, List.length_append, pairsX, List.length_map, List.length_range]; omega
    (try simp only [go_sem, ↓reduceIte, reduceEqDiff, reduceAdd, reduceMul, reduceLeDiff, reduceLT])
    refine ⟨fun h2 => At.mk ?_, fun h2 => At.mk ?_⟩
    · have h2 := of_decide h2
      have w2 := wsucc (k := e) (by omega)
      (try simp only [go_sem, ↓reduceIte, reduceEqDiff, reduceAdd, reduceMul, reduceLeDiff, reduceLT])
      refine app_own (pairsE k e) o rfl rfl (by simp only [maxL]; omega) fun id3 H o => ?_
      (try simp only [go_sem, ↓reduceIte, reduceEqDiff, reduceAdd, reduceMul, reduceLeDiff, reduceLT, w2])
      exact for_next (_, _) (by omega) ⟨by rw [hout, pairsX_succ, List.append_assoc], o⟩ rfl
    · have h2 := of_ndecide h2
      obtain rfl : e = n := by omega
      (try simp only [go_sem, ↓reduceIte, reduceEqDiff, reduceAdd, reduceMul, reduceLeDiff, reduceLT, w1])
      exact for_next (_, _) (by omega) ⟨by rw [hout, pairsN, hn]; rfl, o⟩ rfl
  · have h1 := of_ndecide h1
    obtain rfl : k = f.sizes.length := by omega
    (try simp only [go_sem, ↓reduceIte, reduceEqDiff, reduceAdd, reduceMul, reduceLeDiff, reduceLT])
    refine fz_own o rfl fun H o => ?_
    (try simp only [go_sem, ↓reduceIte, reduceEqDiff, reduceAdd, reduceMul, reduceLeDiff, reduceLT])
    exact pure_ret (by rw [hout]; rfl) o.sub
theorem elements_ok (B : Nat) (f : SF) (hl : f.sizes.length ≤ 8) (hz : ∀ y, y ∈ f.sizes → 0 ≤ y ∧ y < 17) : ∃ n : Int, Pur Tryz.prog B 73 [.ptr f.cells] (iI n) := by
  refine ⟨f.sizes.sum, ⟨fun H0 => c73p (by simp) fun _ => ?_⟩⟩
  unfold s73p
  (try simp only [go_sem, ↓reduceIte, reduceEqDiff, reduceAdd, reduceMul, reduceLeDiff, reduceLT])
  refine awp_for [9, 10] (G := Unit) (fun k _ => [(3, some (.int .i64 (f.sizes.take k).sum)), (11, some (.int .i64 (k : Int)))]) (fun k _ H => H = H0 ∧ 0 ≤ (f.sizes.take k).sum ∧ (f.sizes.take k).sum ≤ 17 * k) f.sizes.length () ⟨rfl, by simp, by simp⟩ rfl ?_
  rintro k _ H hk ⟨rfl, hs⟩
  (try simp only [go_sem, ↓reduceIte, reduceEqDiff, reduceAdd, reduceMul, reduceLeDiff, reduceLT])
  refine ⟨fun h1 => At.mk ?_, fun h1 => At.mk ?_⟩
  · have h1 := of_decide h1
    have w1 := wsucc (k := k) (by omega)
    have hsz := hz _ (mem_getD.mpr ⟨k, h1, rfl⟩)
    have e : (f.sizes.take (k + 1)).sum = (f.sizes.take k).sum + f.sizes.getD k default := by rw [take_succ' _ h1]; simp
    have w2 : IntKind.i64.wrap ((f.sizes.take k).sum + f.sizes.getD k default) = (f.sizes.take (k + 1)).sum := by rw [wrap_i64 (by omega) (by omega), e]
    (try simp only [go_sem, ↓reduceIte, reduceEqDiff, reduceAdd, reduceMul, reduceLeDiff, reduceLT])
    refine ⟨h1, ?_⟩
    (try simp only [go_sem, ↓reduceIte, reduceEqDiff, reduceAdd, reduceMul, reduceLeDiff, reduceLT, w1, w2])
    exact for_next () (by omega) ⟨rfl, by omega, by omega⟩ rfl
  · have h1 := of_ndecide h1
    obtain rfl : k = f.sizes.length := by omega
    (try simp only [go_sem, ↓reduceIte, reduceEqDiff, reduceAdd, reduceMul, reduceLeDiff, reduceLT])
    exact pure_ret (by rw [List.take_length]) (.refl _)
theorem compareFunc_ok (B : Nat) (a b : List (List Int)) : Pur Tryz.prog B 293 [iLL a, iLL b, .fn (.func 214) []] (.int .i64 (cmpL a b)) := by
  refine ⟨fun H0 => c293p (by simp) fun ⟨hf, hf2, _⟩ => ?_⟩
  have hla := fine_mL_le hf
  have hlb := fine_mL_le hf2
  simp only [maxL] at hla hlb
  unfold s293p
  (try simp only [go_sem, ↓reduceIte, reduceEqDiff, reduceAdd, reduceMul, reduceLeDiff, reduceLT])
  refine awp_for [0, 1, 2, 11, 12] (fun k _ => [(13, some (.int .i64 (k : Int)))]) (fun k _ H => H = H0 ∧ k ≤ b.length ∧ cmpL a b = cmpL (a.drop k) (b.drop k)) a.length () ⟨rfl, by omega, by simp⟩ rfl ?_
  rintro k _ H hk ⟨rfl, hkb, hall⟩
  (try simp only [go_sem, ↓reduceIte, reduceEqDiff, reduceAdd, reduceMul, reduceLeDiff, reduceLT])
  refine ⟨fun h1 => At.mk ?_, fun h1 => At.mk ?_⟩
  · have h1 := of_decide h1
    have w1 := wsucc (k := k) (by omega)
    (try simp only [go_sem, ↓reduceIte, reduceEqDiff, reduceAdd, reduceMul, reduceLeDiff, reduceLT])
    refine ⟨h1, ?_⟩
    (try simp only [go_sem, ↓reduceIte, reduceEqDiff, reduceAdd, reduceMul, reduceLeDiff, reduceLT])
    refine ⟨fun h2 => At.mk ?_, fun h2 => At.mk ?_⟩
    · have h2 := of_decide h2
      (try simp only [go_sem, ↓reduceIte, reduceEqDiff, reduceAdd, reduceMul, reduceLeDiff, reduceLT])
      exact pure_ret (by rw [hall, cmpL_long h1 (by omega)]) (.refl _)
    · have h2 := of_ndecide h2
      (try simp only [go_sem, ↓reduceIte, reduceEqDiff, reduceAdd, reduceMul, reduceLeDiff, reduceLT])
      refine ⟨by omega, (compare_ok ..).go fun _ => ?_⟩
      (try simp only [go_sem, ↓reduceIte, reduceEqDiff, reduceAdd, reduceMul, reduceLeDiff, reduceLT])
      refine ⟨fun h3 => At.mk ?_, fun h3 => At.mk ?_⟩
      · have h3p := h3; simp only [bnt, bnf, decide_eq_true_eq, decide_eq_false_iff_not, dect, decf, Int.not_lt, Int.not_le, Nat.not_lt, Decidable.not_not, ne_eq, Bool.true_eq_false, Bool.false_eq_true] at h3p
        (try simp only [go_sem, ↓reduceIte, reduceEqDiff, reduceAdd, reduceMul, reduceLeDiff, reduceLT])
        exact pure_ret (by rw [hall, cmpL_stop h1 (by omega) h3p]) (.refl _)
      · have h3p := h3; simp only [bnt, bnf, decide_eq_true_eq, decide_eq_false_iff_not, dect, decf, Int.not_lt, Int.not_le, Nat.not_lt, Decidable.not_not, ne_eq, Bool.true_eq_false, Bool.false_eq_true] at h3p
        (try simp only [go_sem, ↓reduceIte, reduceEqDiff, reduceAdd, reduceMul, reduceLeDiff, reduceLT, w1])
        exact for_next () (by omega) ⟨rfl, by omega, by rw [hall, cmpL_step h1 (by omega) h3p]⟩ rfl
  · have h1 := of_ndecide h1
    obtain rfl : k = a.length := by omega
    (try simp only [go_sem, ↓reduceIte, reduceEqDiff, reduceAdd, reduceMul, reduceLeDiff, reduceLT])
    refine ⟨fun h2 => At.mk ?_, fun h2 => At.mk ?_⟩
    · have h2 := of_decide h2
      (try simp only [go_sem, ↓reduceIte, reduceEqDiff, reduceAdd, reduceMul, reduceLeDiff, reduceLT])
      exact pure_ret (by rw [hall, cmpL_short (Nat.le_refl _) (by omega)]) (.refl _)
    · have h2 := of_ndecide h2
      (try simp only [go_sem, ↓reduceIte, reduceEqDiff, reduceAdd, reduceMul, reduceLeDiff, reduceLT])
      exact pure_ret (by rw [hall, cmpL_end (Nat.le_refl _) (by omega)]) (.refl _)
theorem compareLists_ok (B : Nat) (a b : List (List Int)) : Pur Tryz.prog B 222 [iLL a, iLL b] (.int .i64 (cmpL a b)) := by
  refine ⟨fun H0 => c222p (by simp) fun _ => ?_⟩
  unfold s222p
  (try simp only [go_sem, ↓reduceIte, reduceEqDiff, reduceAdd, reduceMul, reduceLeDiff, reduceLT])
  refine (compareFunc_ok ..).go fun _ => ?_
  (try simp only [go_sem, ↓reduceIte, reduceEqDiff, reduceAdd, reduceMul, reduceLeDiff, reduceLT])
  exact pure_ret rfl (.refl _)
def PE (p : List (List Int)) : AV := .agg [iLL p]
theorem cmpPart_ok (B : Nat) (p q : List (List Int)) : Pur Tryz.prog B 224 [PE p, PE q] (.int .i64 (cmpL p q)) := by
  refine ⟨fun H0 => c224p (by simp) fun _ => ?_⟩
  unfold s224p PE
  (try simp only [go_sem, ↓reduceIte, reduceEqDiff, reduceAdd, reduceMul, reduceLeDiff, reduceLT])
  refine (compareLists_ok ..).go fun _ => ?_
  (try simp only [go_sem, ↓reduceIte, reduceEqDiff, reduceAdd, reduceMul, reduceLeDiff, reduceLT])
  exact pure_ret rfl (.refl _)
theorem samePart_ok (B : Nat) (p q : List (List Int)) : Pur Tryz.prog B 221 [PE p, .ptr [iLL q]] (.bool (dec (q = p))) := by
  refine ⟨fun H0 => c221p (by simp) fun _ => ?_⟩
  unfold s221p PE
  (try simp only [go_sem, ↓reduceIte, reduceEqDiff, reduceAdd, reduceMul, reduceLeDiff, reduceLT])
  refine (compareLists_ok ..).go fun _ => ?_
  (try simp only [go_sem, ↓reduceIte, reduceEqDiff, reduceAdd, reduceMul, reduceLeDiff, reduceLT])
  exact pure_ret (by congr 1; rw [decide_dec]; exact dec_congr cmpL_zero) (.refl _)
def idxR : Option Nat → Int
  | some i => i
  | none => -1
theorem idxR_same {α : Type} [DecidableEq α] (l : List α) (s : α) : idxR (l.findIdx? fun t => dec (s = t)) = indexOf l s := by
  rw [← findIdx_same l s]
  cases l.findIdx? fun t => dec (s = t) <;> rfl
theorem indexPart_ok (B : Nat) (l : List (List (List Int))) (fn : FuncId) (ca : List AV) (p : List (List Int) → Bool) (hp : ∀ t, t ∈ l → PureF Tryz.prog B fn (PE t :: ca) (.bool (p t))) :
    Pur Tryz.prog B 292 [mL iLL l, .fn (.func fn) ca] (.int .i64 (idxR (l.findIdx? p))) := by
  refine ⟨fun H0 => c292p (by simp) fun ⟨hf, _⟩ => ?_⟩
  have hll := fine_mL_le hf
  simp only [maxL] at hll
  unfold s292p
  (try simp only [go_sem, ↓reduceIte, reduceEqDiff, reduceAdd, reduceMul, reduceLeDiff, reduceLT])
  refine awp_for [0, 1, 7] (fun k _ => [(8, some (.int .i64 (k : Int)))]) (fun k _ H => H = H0 ∧ ∀ i, i < k → p (l.getD i default) = false) l.length () ⟨rfl, by simp⟩ rfl ?_
  rintro k _ H hk ⟨rfl, hall⟩
  (try simp only [go_sem, ↓reduceIte, reduceEqDiff, reduceAdd, reduceMul, reduceLeDiff, reduceLT])
  refine ⟨fun h1 => At.mk ?_, fun h1 => At.mk ?_⟩
  · (try simp only [go_sem, ↓reduceIte, reduceEqDiff, reduceAdd, reduceMul, reduceLeDiff, reduceLT])
    have h1p := h1; simp only [bnt, bnf, decide_eq_true_eq, decide_eq_false_iff_not, dect, decf, Int.not_lt, Int.not_le, Nat.not_lt, Decidable.not_not, ne_eq, Bool.true_eq_false, Bool.false_eq_true] at h1p
    have w1 := wsucc (k := k) (by omega)
    refine ⟨h1p, ?_⟩
    (try simp only [go_sem, ↓reduceIte, reduceEqDiff, reduceAdd, reduceMul, reduceLeDiff, reduceLT])
    refine (show CallH Tryz.prog B fn (PE _ :: ca) _ _ from (hp _ (mem_getD.mpr ⟨k, h1p, rfl⟩)).go fun _ => ?_)
    (try simp only [go_sem, ↓reduceIte, reduceEqDiff, reduceAdd, reduceMul, reduceLeDiff, reduceLT])
    refine ⟨fun h2 => At.mk ?_, fun h2 => At.mk ?_⟩
    · (try simp only [go_sem, ↓reduceIte, reduceEqDiff, reduceAdd, reduceMul, reduceLeDiff, reduceLT])
      refine pure_ret ?_ (.refl _)
      have : l.findIdx? p = some k := by
        rw [List.findIdx?_eq_some_iff_getElem]
        refine ⟨h1p, by simpa [List.getD_eq_getElem?_getD, h1p] using h2, fun j hj => ?_⟩
        have := hall j hj
        simpa [List.getD_eq_getElem?_getD, show j < l.length by omega] using this
      rw [this]; rfl
    · (try simp only [go_sem, ↓reduceIte, reduceEqDiff, reduceAdd, reduceMul, reduceLeDiff, reduceLT, w1])
      exact for_next () (by omega) ⟨rfl, lt_succ_all hall h2⟩ rfl
  · (try simp only [go_sem, ↓reduceIte, reduceEqDiff, reduceAdd, reduceMul, reduceLeDiff, reduceLT])
    have h1p := h1; simp only [bnt, bnf, decide_eq_true_eq, decide_eq_false_iff_not, dect, decf, Int.not_lt, Int.not_le, Nat.not_lt, Decidable.not_not, ne_eq, Bool.true_eq_false, Bool.false_eq_true] at h1p
    refine pure_ret ?_ (.refl _)
    have : l.findIdx? p = none := by
      rw [List.findIdx?_eq_none_iff]
      intro x hx
      obtain ⟨i, hi, rfl⟩ := mem_getD.mp hx
      exact hall i (by omega)
    rw [this]; rfl
theorem containsPart_ok (B : Nat) (l : List (List (List Int))) (q : List (List Int)) : Pur Tryz.prog B 220 [mL iLL l, .fn (.func 221) [.ptr [iLL q]]] (.bool (dec (q ∈ l))) := by
  refine ⟨fun H0 => c220p (by simp) fun _ => ?_⟩
  unfold s220p
  (try simp only [go_sem, ↓reduceIte, reduceEqDiff, reduceAdd, reduceMul, reduceLeDiff, reduceLT])
  refine (indexPart_ok B l 221 _ _ fun t _ => (samePart_ok B t q).run).go fun _ => ?_
  rw [idxR_same]
  (try simp only [go_sem, ↓reduceIte, reduceEqDiff, reduceAdd, reduceMul, reduceLeDiff, reduceLT])
  refine pure_ret ?_ (.refl _)
  congr 1
  rw [decide_dec]; exact dec_congr (indexOf_mem l q)
end Go.Proofs.Shf
namespace Go.Proofs
open Go.Shelf
def Tryz.sortP_ren : Go.Shelf.Ren := ⟨fun | 6 => 223 | 15 => 285 | 14 => 294 | 28 => 325 | 29 => 326 | 20 => 329 | 21 => 330 | 22 => 331 | 23 => 332 | 24 => 333 | 25 => 334 | 26 => 335 | 27 => 336 | 46 => 363 | 47 => 355 | 48 => 356 | 49 => 364 | 50 => 365 | 57 => 386 | n => n, fun | 22 => 67 | 24 => 75 | 25 => 284 | 3 => 3 | 39 => 158 | 0 => 0 | 53 => 266 | 55 => 63 | 4 => 4 | 46 => 367 | 45 => 366 | 50 => 371 | 5 => 5 | 9 => 9 | 66 => 394 | 70 => 398 | 76 => 420 | 77 => 421 | n => n, fun | n => n⟩
theorem Tryz.sortP : Go.Proofs.SlLaysF0.n6 Tryz.prog Tryz.sortP_ren := {
  mixed := by kernel_rfl
  f6 := ⟨Tryz.f223.name, by decide, Tryz.func223.trans (congrArg some (by kernel_rfl))⟩
  f14 := ⟨Tryz.f294.name, by decide, Tryz.func294.trans (congrArg some (by kernel_rfl))⟩
  f15 := Tryz.func285.trans (congrArg some (by kernel_rfl))
  f20 := ⟨Tryz.f329.name, by decide, Tryz.func329.trans (congrArg some (by kernel_rfl))⟩
  f21 := ⟨Tryz.f330.name, by decide, Tryz.func330.trans (congrArg some (by kernel_rfl))⟩
  f22 := ⟨Tryz.f331.name, by decide, Tryz.func331.trans (congrArg some (by kernel_rfl))⟩
  f23 := ⟨Tryz.f332.name, by decide, Tryz.func332.trans (congrArg some (by kernel_rfl))⟩
  f24 := ⟨Tryz.f333.name, by decide, Tryz.func333.trans (congrArg some (by kernel_rfl))⟩
  f25 := ⟨Tryz.f334.name, by decide, Tryz.func334.trans (congrArg some (by kernel_rfl))⟩
  f26 := ⟨Tryz.f335.name, by decide, Tryz.func335.trans (congrArg some (by kernel_rfl))⟩
  f27 := ⟨Tryz.f336.name, by decide, Tryz.func336.trans (congrArg some (by kernel_rfl))⟩
  f28 := Tryz.func325.trans (congrArg some (by kernel_rfl))
  f29 := Tryz.func326.trans (congrArg some (by kernel_rfl))
  f46 := ⟨Tryz.f363.name, by decide, Tryz.func363.trans (congrArg some (by kernel_rfl))⟩
  f47 := Tryz.func355.trans (congrArg some (by kernel_rfl))
  f48 := Tryz.func356.trans (congrArg some (by kernel_rfl))
  f49 := ⟨Tryz.f364.name, by decide, Tryz.func364.trans (congrArg some (by kernel_rfl))⟩
  f50 := ⟨Tryz.f365.name, by decide, Tryz.func365.trans (congrArg some (by kernel_rfl))⟩
  f57 := ⟨Tryz.f386.name, by decide, Tryz.func386.trans (congrArg some (by kernel_rfl))⟩
  t0 := Tryz.underlying0
  a0 := Tryz.isAgg0
  z0 := Tryz.sizeOf0
  v0 := Tryz.zeroValue0
  t3 := Tryz.underlying3
  a3 := Tryz.isAgg3
  z3 := Tryz.sizeOf3
  v3 := Tryz.zeroValue3
  t4 := Tryz.underlying4
  a4 := Tryz.isAgg4
  z4 := Tryz.sizeOf4
  v4 := Tryz.zeroValue4
  t5 := Tryz.underlying5
  a5 := Tryz.isAgg5
  z5 := Tryz.sizeOf5
  v5 := Tryz.zeroValue5
  t9 := Tryz.underlying9
  a9 := Tryz.isAgg9
  z9 := Tryz.sizeOf9
  v9 := Tryz.zeroValue9
  t22 := Tryz.underlying67
  a22 := Tryz.isAgg67
  z22 := Tryz.sizeOf67
  v22 := Tryz.zeroValue67
  t25 := Tryz.underlying284
  a25 := Tryz.isAgg284
  z25 := Tryz.sizeOf284
  v25 := Tryz.zeroValue284
  t39 := Tryz.underlying158
  a39 := Tryz.isAgg158
  z39 := Tryz.sizeOf158
  v39 := Tryz.zeroValue158
  t45 := Tryz.underlying366
  a45 := Tryz.isAgg366
  z45 := Tryz.sizeOf366
  v45 := Tryz.zeroValue366
  t46 := Tryz.underlying367
  a46 := Tryz.isAgg367
  z46 := Tryz.sizeOf367
  v46 := Tryz.zeroValue367
  t50 := Tryz.underlying371
  a50 := Tryz.isAgg371
  z50 := Tryz.sizeOf371
  v50 := Tryz.zeroValue371
  t53 := Tryz.underlying266
  a53 := Tryz.isAgg266
  z53 := Tryz.sizeOf266
  v53 := Tryz.zeroValue266
  t55 := Tryz.underlying63
  a55 := Tryz.isAgg63
  z55 := Tryz.sizeOf63
  v55 := Tryz.zeroValue63
  t66 := Tryz.underlying394
  a66 := Tryz.isAgg394
  z66 := Tryz.sizeOf394
  v66 := Tryz.zeroValue394
  t70 := Tryz.underlying398
  a70 := Tryz.isAgg398
  z70 := Tryz.sizeOf398
  v70 := Tryz.zeroValue398
  t76 := Tryz.underlying420
  a76 := Tryz.isAgg420
  z76 := Tryz.sizeOf420
  v76 := Tryz.zeroValue420
  t77 := Tryz.underlying421
  a77 := Tryz.isAgg421
  z77 := Tryz.sizeOf421
  v77 := Tryz.zeroValue421 }
end Go.Proofs
namespace Go.Proofs.Shf
open Go.AW Go.Proofs Go.Shf Go.RowKit Go.Sort
theorem flat_one {α : Type} [Inhabited α] (e : α → Value) (d : Array α) : flatK (fun x => [e x]) 1 d = d.map e := by
  refine Array.ext (by simp) fun t h1 h2 => ?_
  have ht : t < d.size := by simpa using h2
  rw [← getElem!_pos _ t h1, get_flatK _ _ _ t (by simpa using ht)]
  simp [Nat.mod_one, ht]
theorem putRow_one {α : Type} [Inhabited α] (e : α → Value) (w : World) (b off : Nat) (d : Array α) : putRowK (fun x => [e x]) 1 w b off d = putRow e w b off d := by
  rw [putRowK, flat_one, putRow, putRow]
  congr 1
  funext c
  simp only [putCells, Array.size_map]
  congr 1
  funext k x
  split
  · rename_i h
    have : k - off < d.size := by omega
    simp [this]
  · rfl
theorem holds_one {α : Type} [Inhabited α] {e : α → Value} {w : World} {b off : Nat} {d : Array α} (h : Holds e w b off d) : HoldsK (fun x => [e x]) 1 w b off d := by
  intro j hj
  rw [flat_one, Array.size_map] at hj
  have := h j hj
  rw [flat_one]
  simpa [hj] using this
theorem swo_cmpL {n : Nat} (S : List (List (List Int))) : SWO (ltOf fun x y : Fin n => cmpL (S.getD x default) (S.getD y default)) where
  irrefl x := by simp [ltOf, cmpL_zero.mpr rfl]
  trans x y z h1 h2 := decide_eq_true (cmpL_trans (of_decide_eq_true h1) (of_decide_eq_true h2))
  ntrans x y z h1 h2 := decide_eq_false (cmpL_ntr (of_decide_eq_false h1) (of_decide_eq_false h2))
theorem cmpL_lays {g : Gh} {B : Nat} {H : Heap} {w : World} (h : WRel g B H w) (S : Nat → List (List Int)) (b size : Nat) (hfz : ∀ o, g.fz b o = none) (hfm : g.fm b = none) {α : Type} [Inhabited α] (nm : α → Nat) (enc : α → Value) (hv : ∀ x, VRel g (iLL (S (nm x))) (enc x)) :
    CmpLays Tryz.prog 224 #[] (fun x => [enc x]) 1 (fun x y => cmpL (S (nm x)) (S (nm y))) b 0 size w := by
  intro m os dk hs x y
  rw [sortWorldK, putRow_one]
  have hW := h.other b hfz hfm fun k hk hl => row_other enc w b 0 m dk os k hk hl
  generalize (Sort.grow (Sort.putRow enc (Sort.ahead w m) b 0 dk) os) = W at hW ⊢
  have hc := (cmpPart_ok W.heap.size (S (nm x)) (S (nm y))).run []
  have hag : ∀ x, VRel g (PE (S (nm x))) (.agg #[enc x]) := fun x => .agg _ _ rfl fun i hi => by
    have : i = 0 := by simpa using hi
    subst this; exact hv x
  refine (hc.2 g W _ hW ⟨rfl, fun i hi => ?_⟩).mono ?_
  · obtain rfl | rfl : i = 0 ∨ i = 1 := by simp only [List.length_cons, List.length_nil] at hi; omega
    · exact hag x
    · exact hag y
  rintro e w' ⟨v, rfl, g', r, H', _, ⟨rfl, rfl⟩, hv2, _, hb⟩
  cases hv2
  exact ⟨rfl, below_grow hb⟩
theorem sortPart_own (B : Nat) (S : List (List (List Int))) (hpos : 0 < S.length) (hbig : S.length < 4611686018427387904) {H0 H : Heap} {l : List (Nat × MObj)} {id : Nat} {K : Kont}
    (o : Owns H0 H ((id, .cells 1 (S.map iLL) 0) :: l)) (hk : ∀ (H' : Heap) (S' : List (List (List Int))), S'.Perm S → Owns H0 H' ((id, .cells 1 (S'.map iLL) 0) :: l) → K (.tup []) H') :
    CallH Tryz.prog B 223 [.buf id S.length, .fn (.func 224) []] H K := by
  letI : Inhabited (Fin S.length) := ⟨⟨0, hpos⟩⟩
  refine ⟨⟨_, Tryz.func223, by kernel_rfl, by kernel_rfl⟩, fun g w vs hW hv => ?_⟩
  have hS0 : 0 < S.length := hpos
  have h0 := o.h0
  simp only at h0
  obtain ⟨p, hp, hr⟩ := hW.ob id _ h0
  cases p with
  | nil => simp only [ObjRel] at hr; have := hr.1; simp at this; rw [this] at hS0; simp at hS0
  | mp b => simp [ObjRel] at hr
  | blk b cap =>
    simp only [ObjRel] at hr
    obtain ⟨r1, r2, r3, r4, c, el, r5, r6, r7, r8⟩ := hr
    rw [List.length_map] at r7 r8
    obtain ⟨hv0, hv1⟩ := hv
    obtain ⟨v0, v1, rfl⟩ : ∃ v0 v1, vs = #[v0, v1] := by
      rcases vs with ⟨l⟩
      simp only [List.length_cons, List.length_nil] at hv0
      match l, hv0 with
      | [a, b], _ => exact ⟨a, b, rfl⟩
    have e0 : VRel g (.buf id S.length) v0 := hv1 0 (by simp)
    have e1 : VRel g (.fn (.func 224) []) v1 := hv1 1 (by simp)
    have hv0' : ∃ cap', v0 = .slice (some ⟨b, 0, none⟩) S.length cap' := by
      generalize hn : S.length = n at *
      cases e0 with
      | bufnil _ hq => rw [hq] at hp; cases hp
      | buf _ _ b' cap' hq => rw [hq] at hp; cases hp; exact ⟨_, rfl⟩
    obtain ⟨cap', rfl⟩ := hv0'
    have hv1' : v1 = .func (.func 224) #[] #[] := by
      cases e1 with
      | fn _ _ vs hs _ =>
        have : vs = #[] := Array.eq_empty_of_size_eq_zero (by simpa using hs)
        rw [this]
    subst hv1'
    have hsz : (Array.ofFn fun i : Fin S.length => i).size = S.length := by simp
    have hbl : b < w.heap.size := (Array.getElem?_eq_some_iff.1 r5).1
    have hfm : g.fm b = none := by
      cases e : g.fm b with
      | none => rfl
      | some es => obtain ⟨clk, h⟩ := hW.fm _ _ e; rw [r5] at h; cases h
    have henc : ∀ x : Fin S.length, VRel g (iLL (S.getD x default)) (c.getD x undef) := fun x => by
      have := r8 x x.2; rw [getD_map S x.2] at this; exact this
    have eg : ∀ args w, (callFunc 224 args).run Tryz.prog w = .ok (.enter 224 args) w := enters_of Tryz.func224 (by kernel_rfl) rfl
    have hH : Holds (fun x : Fin S.length => c.getD x undef) w b 0 (Array.ofFn fun i : Fin S.length => i) := fun j hj => by
      rw [hsz] at hj
      have hjc : j < c.size := by omega
      refine ⟨?_, ?_⟩
      · simp [World.cell?, r5, hjc, hj]
      · simp [World.frozen?, r5]
    have hl := AnyQ.slices_SortFunc Tryz.sortP 1 Tryz.isAgg75 Tryz.sizeOf75 (fun x : Fin S.length => [c.getD x undef]) (fun _ => rfl) (fun x v hv => by
      rw [List.mem_singleton] at hv; subst hv; exact sl_one (henc x)) (fun x y => cmpL (S.getD x default) (S.getD y default)) (swo_cmpL S) 224 #[] b 0 cap' (Array.ofFn fun i : Fin S.length => i) w eg
      (cmpL_lays hW (fun i => S.getD i default) b _ (fun o => r4 o (Nat.zero_le _)) hfm (fun x : Fin S.length => x.val) _ henc) (holds_one hH) hbl (by rw [hsz]; exact hbig)
    rw [hsz] at hl
    refine hl.mono ?_
    rintro e w' ⟨rfl, d', m, os, hp2, hs2, rfl⟩
    rw [sortWorldK, putRow_one]
    have hd' : d'.size = S.length := by rw [hp2.1, hsz]
    have hperm : d'.toList.Perm (Array.ofFn fun i : Fin S.length => i).toList := by
      have := hp2.2.2
      rw [Array.extract_eq_self_of_le (by omega), Array.extract_eq_self_of_le (by omega)] at this
      exact this
    have hmap : (Array.ofFn fun i : Fin S.length => i).toList.map (fun i : Fin S.length => S.getD i default) = S := by
      apply List.ext_getElem (by simp)
      intro i h1 h2
      simp [List.getD_eq_getElem?_getD, h2]
    have hSp : (d'.toList.map fun i : Fin S.length => S.getD i default).Perm S := by
      have := hperm.map fun i : Fin S.length => S.getD i default
      rwa [hmap] at this
    have hget : ∀ k (hk : k < d'.size), d'[k]! = d'[k] := fun k hk => getElem!_pos d' k hk
    obtain ⟨q1, q2⟩ := hW.sorted (fun x : Fin S.length => c.getD x undef) d' h0 hp r5 (by rw [hd']; simp) (cs' := (d'.toList.map fun i : Fin S.length => S.getD i default).map iLL) (by simp [hd']) (fun k hk => by
      rw [List.length_map, List.length_map, Array.length_toList] at hk
      rw [hget k hk]
      have : ((d'.toList.map fun i : Fin S.length => S.getD i default).map iLL).getD k nv = iLL (S.getD d'[k] default) := by simp [List.getD_eq_getElem?_getD, hk]
      rw [this]; exact henc _) m os
    exact ⟨_, rfl, g, .tup [], _, .refl g, hk _ _ hSp (o.put _), .tup [] #[] rfl (by simp), q1, q2⟩
end Go.Proofs.Shf
namespace Go.Proofs.Shf
open Go.AW Go.Proofs Go.Shf
theorem rd_one {α : Type} [Inhabited α] {f : α → AV} {H0 H : Heap} {l : List (Nat × MObj)} {K : Kont} {id fr k : Nat} {A : List α} (o : Owns H0 H ((id, .cells 1 (A.map f) fr) :: l)) (hk : k < A.length) (h : K (.agg [f (A.getD k default)]) H) : rd1 (H.get id) (some 1) k K H := by
  refine rd_celln o (by simp; omega) ?_
  have : ((A.map f).drop k).take 1 = [f (A.getD k default)] := by
    rw [List.drop_eq_getElem_cons (by simpa using hk)]
    simp [List.getD_eq_getElem?_getD, hk]
  rw [this]; exact h
theorem app_ag {α : Type} {f : α → AV} {H0 H : Heap} {l : List (Nat × MObj)} {K : Kont} {id n : Nat} {A : List α} (a : α) (o : Owns H0 H ((id, .cells 1 (A.map f) 0) :: l)) (hn : n = A.length) (h2 : (f a).one = true) (hm : A.length + 1 ≤ maxL)
    (hk : ∀ id' H', Owns H0 H' ((id', .cells 1 ((A ++ [a]).map f) 0) :: l) → K (.buf id' (A ++ [a]).length) H') : appW 1 (some (.buf id n)) (some (.sl [.agg [f a]])) K H := by
  subst hn
  have hok : okEls 1 [AV.agg [f a]] := by
    intro e he
    rw [List.mem_singleton] at he; subst he
    exact ⟨rfl, fun c hc => by
      have : c = f a := by simpa [AV.cells] using hc
      subst this; exact h2⟩
  have h0 := o.h0
  simp only at h0
  simp only [appW, h0, srcOf, app2]
  refine ⟨⟨trivial, by simp, by simp; omega, by simp; omega, hok⟩, fun id' hn => ?_⟩
  have hfl : flat [AV.agg [f a]] = [f a] := by simp [flat, AV.cells]
  rw [hfl]
  have := hk id' _ (o.mv hn (.cells 1 ((A ++ [a]).map f) 0))
  simpa using this
def gensF (f : SF) : List (List (List Int)) := (pairsF f).map fun p => genF f (p.getD 0 default) (p.getD 1 default)
def PartsQ (f : SF) (r : AV) : Prop := (∃ L, AllP f L ∧ r = .tup [mL iLL L, .bool true]) ∨ r = .tup [.sl [], .bool false]
theorem allPartsF_ok (B : Nat) (f : SF) (h : f.Is) (most : Nat) (h1 : 1 ≤ most) (h2 : most ≤ 1000) : Rets B 106 [.ptr f.cells, iI most] (PartsQ f) := by
  intro H0
  refine c106p (by simp) fun _ => ?_
  have ho := h.1.is.1.o
  have hsl := h.1.sl
  have hz := h.1.sz
  unfold s106p
  have o : Owns H0 H0 [] := .nil _
  (try simp only [go_sem, ↓reduceIte, reduceEqDiff, reduceAdd, reduceMul, reduceLeDiff, reduceLT])
  refine (none_ok B f h.1).go fun _ => ?_
  (try simp only [go_sem, ↓reduceIte, reduceEqDiff, reduceAdd, reduceMul, reduceLeDiff, reduceLT])
  refine newBuf_own o fun id6 H o => ?_
  (try simp only [go_sem, ↓reduceIte, reduceEqDiff, reduceAdd, reduceMul, reduceLeDiff, reduceLT])
  generalize hP : gensF f = P
  have hPm : ∀ g, g ∈ P → f.Part g := fun g hg => by
    rw [← hP, gensF, List.mem_map] at hg
    obtain ⟨p, hp, rfl⟩ := hg
    obtain ⟨x, e, hx, he, rfl⟩ := mem_pairsN.mp hp
    have := hz _ (mem_getD.mpr ⟨x, hx, rfl⟩)
    exact genF_part h (x := x) (e := e) (by rw [ix_nat]; omega)
  have hPl : P.length = (pairsF f).length := by rw [← hP, gensF, List.length_map]
  have hpl : (pairsF f).length ≤ 128 := Nat.le_trans (pairsN_len hz (Nat.le_refl _)) (by omega)
  refine awp_while [0, 1] (fun (g : Nat × List (List (List Int)) × Nat) => [(6, some (.buf g.1 g.2.1.length)), (7, some (.int .i64 (g.2.2 : Int)))])
    (fun m g H => m = most - g.2.2 ∧ g.2.2 ≤ g.2.1.length ∧ g.2.1.length ≤ most ∧ WorkF (joinF f) f.Part (noneF f) P g.2.1 g.2.2 0 ∧ Owns H0 H [(g.1, .cells 1 (g.2.1.map iLL) 0)]) most (id6, [noneF f], 0)
    ⟨rfl, by simp, by simpa using h1, ⟨by simp, by simp, fun t ht => by
      rw [List.mem_singleton] at ht; subst ht
      exact noneF_part h.1, by simp, by simp⟩, o⟩ rfl ?_
  clear o
  rintro m ⟨id6, S, k⟩ H ⟨rfl, hkl, hSm, hW, o⟩
  replace hkl : k ≤ S.length := hkl
  replace hSm : S.length ≤ most := hSm
  replace hW : WorkF (joinF f) f.Part (noneF f) P S k 0 := hW
  replace o : Owns H0 H [(id6, .cells 1 (S.map iLL) 0)] := o
  (try simp only [go_sem, ↓reduceIte, reduceEqDiff, reduceAdd, reduceMul, reduceLeDiff, reduceLT])
  refine ⟨fun g1 => At.mk ?_, fun g1 => At.mk ?_⟩
  · have g1p := of_decide g1
    have w := wsucc (k := k) (by omega)
    (try simp only [go_sem, ↓reduceIte, reduceEqDiff, reduceAdd, reduceMul, reduceLeDiff, reduceLT])
    refine (pairs_ok B f (by omega) hz).go fun _ => ?_
    (try simp only [go_sem, ↓reduceIte, reduceEqDiff, reduceAdd, reduceMul, reduceLeDiff, reduceLT])
    refine awp_for [0, 1, 7, 21, 22] (G := Nat × List (List (List Int))) (fun j g => [(6, some (.buf g.1 g.2.length)), (23, some (.int .i64 (j : Int)))])
      (fun j g H => k < g.2.length ∧ g.2.length ≤ most ∧ WorkF (joinF f) f.Part (noneF f) P g.2 k j ∧ Owns H0 H [(g.1, .cells 1 (g.2.map iLL) 0)]) (pairsF f).length (id6, S) ⟨g1p, hSm, hW, o⟩ rfl ?_
    clear o hkl hSm hW g1 g1p
    rintro j ⟨id6, S⟩ H hj ⟨hkl, hSm, hW, o⟩
    replace hkl : k < S.length := hkl
    replace hSm : S.length ≤ most := hSm
    replace hW : WorkF (joinF f) f.Part (noneF f) P S k j := hW
    replace o : Owns H0 H [(id6, .cells 1 (S.map iLL) 0)] := o
    (try simp only [go_sem, ↓reduceIte, reduceEqDiff, reduceAdd, reduceMul, reduceLeDiff, reduceLT])
    refine ⟨fun g2 => At.mk ?_, fun g2 => At.mk ?_⟩
    · have g2p := of_decide g2
      have w2 := wsucc (k := j) (by omega)
      (try simp only [go_sem, ↓reduceIte, reduceEqDiff, reduceAdd, reduceMul, reduceLeDiff, reduceLT])
      refine ⟨g2p, ?_⟩
      obtain ⟨x, e, hx, he, hpe⟩ := mem_pairsN.mp (mem_getD.mpr ⟨j, g2p, rfl⟩)
      have hpe : (pairsF f).getD j default = pairsE x e := hpe
      have hxe := hz _ (mem_getD.mpr ⟨x, hx, rfl⟩)
      have he2 : (e : Int) < f.sizes.getD x default := by omega
      have hPj : P.getD j default = genF f x e := by
        rw [← hP, gensF]
        exact (map_getD _ g2p).trans (by rw [hpe]; rfl)
      rw [hpe]
      (try simp only [go_sem, ↓reduceIte, reduceEqDiff, reduceAdd, reduceMul, reduceLeDiff, reduceLT])
      refine ⟨hkl, rd_one o hkl ?_⟩
      generalize ht : S.getD k default = t at *
      have htm : t ∈ S := by rw [← ht]; exact mem_getD.mpr ⟨k, hkl, rfl⟩
      have hts := hW.sv t htm
      have hgp : f.Part (genF f x e) := by rw [← hPj]; exact hPm _ (mem_getD.mpr ⟨j, by omega, rfl⟩)
      (try simp only [go_sem, ↓reduceIte, reduceEqDiff, reduceAdd, reduceMul, reduceLeDiff, reduceLT])
      refine ⟨_, (generated_ok B f h.1 x hx e he2).run, ?_⟩
      (try simp only [go_sem, ↓reduceIte, reduceEqDiff, reduceAdd, reduceMul, reduceLeDiff, reduceLT])
      refine ⟨_, (join_ok B f h.1 t (genF f x e) hts.len hgp.len).run, ?_⟩
      have hss := joinF_part h.1 hts hgp
      have hstep : joinF f (S.getD k default) (P.getD j default) = joinF f t (genF f x e) := by rw [ht, hPj]
      generalize joinF f t (genF f x e) = q at *
      (try simp only [go_sem, ↓reduceIte, reduceEqDiff, reduceAdd, reduceMul, reduceLeDiff, reduceLT])
      refine newRef_own o fun id10 H o => ?_
      (try simp only [go_sem, ↓reduceIte, reduceEqDiff, reduceAdd, reduceMul, reduceLeDiff, reduceLT])
      refine st_cells o (by simp) (by (try simp only [go_sem]); (try simp)) (by first | (simp only [go_sem]; done) | ((try simp only [go_sem]); simp [AV.one, one_mL])) fun H o => ?_
      simp only [wr_cons, wr_nil, List.set_cons_zero, List.set_cons_succ] at o
      (try simp only [go_sem, ↓reduceIte, reduceEqDiff, reduceAdd, reduceMul, reduceLeDiff, reduceLT])
      refine wk_ref 10 o rfl fun H o => wkW_done ?_
      (try simp only [go_sem, ↓reduceIte, reduceEqDiff, reduceAdd, reduceMul, reduceLeDiff, reduceLT])
      refine CallH.lentPure (es := [mL iLL S, .fn (.func 221) [.ptr [iLL q]]]) (.bool _) rfl (fun i hi => ?_) (containsPart_ok B S q).run ?_
      · obtain rfl | rfl : i = 0 ∨ i = 1 := by simp only [List.length_cons, List.length_nil] at hi; omega
        · exact lent_arg o rfl
        · exact val_arg _
      by_cases hin : q ∈ S
      · rw [dec_t hin]
        (try simp only [go_sem, ↓reduceIte, reduceEqDiff, reduceAdd, reduceMul, reduceLeDiff, reduceLT, w2])
        refine for_next (id6, S) g2p ⟨hkl, hSm, ⟨hW.z, hW.nd, hW.sv, hW.dn, fun i hi hiL => ?_⟩, o⟩ rfl
        by_cases e : i = j
        · subst e; rw [hstep]; exact hin
        · exact hW.pt i (by omega) hiL
      · rw [dec_f hin]
        (try simp only [go_sem, ↓reduceIte, reduceEqDiff, reduceAdd, reduceMul, reduceLeDiff, reduceLT])
        refine ⟨fun g3 => At.mk ?_, fun g3 => At.mk ?_⟩
        · (try simp only [go_sem, ↓reduceIte, reduceEqDiff, reduceAdd, reduceMul, reduceLeDiff, reduceLT])
          exact rets_ret (.inr rfl) o.sub
        · have g3p := of_ndecide g3
          (try simp only [go_sem, ↓reduceIte, reduceEqDiff, reduceAdd, reduceMul, reduceLeDiff, reduceLT])
          refine app_ag q o rfl rfl (by simp only [maxL]; omega) fun id6 H o => ?_
          (try simp only [go_sem, ↓reduceIte, reduceEqDiff, reduceAdd, reduceMul, reduceLeDiff, reduceLT, w2])
          have hl : (S ++ [q]).length = S.length + 1 := by simp
          have hgd : ∀ i, i < S.length → (S ++ [q]).getD i default = S.getD i default := fun i hi => by
            simp [List.getD_eq_getElem?_getD, List.getElem?_append_left hi]
          refine for_next (id6, S ++ [q]) g2p ⟨by rw [hl]; omega, by rw [hl]; omega, ⟨List.mem_append_left _ hW.z, ?_, ?_, ?_, ?_⟩, o⟩ rfl
          · rw [List.nodup_append]
            refine ⟨hW.nd, by simp, fun a ha b hb => ?_⟩
            rw [List.mem_singleton] at hb
            rintro rfl; rw [hb] at ha; exact hin ha
          · intro u hu
            rw [List.mem_append, List.mem_singleton] at hu
            rcases hu with hu | rfl
            · exact hW.sv u hu
            · exact hss
          · intro i hi g hg
            rw [hgd i (by omega)]
            exact List.mem_append_left _ (hW.dn i hi g hg)
          · intro i hi hiL
            rw [hgd k hkl]
            by_cases e : i = j
            · subst e; rw [hstep]; simp
            · exact List.mem_append_left _ (hW.pt i (by omega) hiL)
    · have g2p := of_ndecide g2
      obtain rfl : j = (pairsF f).length := by omega
      (try simp only [go_sem, ↓reduceIte, reduceEqDiff, reduceAdd, reduceMul, reduceLeDiff, reduceLT])
      refine ⟨most - (k + 1), _, H, by omega, ⟨(id6, S, k + 1), ⟨rfl, by simp only; omega, hSm, ⟨hW.z, hW.nd, hW.sv, fun i hi g hg => ?_, by simp⟩, o⟩, rfl⟩, by rw [w]; exact .refl _ _⟩
      replace hi : i < k + 1 := hi
      by_cases e : i = k
      · subst e
        obtain ⟨n, hn, rfl⟩ := mem_getD.mp hg
        exact hW.pt n (by omega) hn
      · exact hW.dn i (by omega) g hg
  · have g1p := of_ndecide g1
    obtain rfl : k = S.length := by omega
    (try simp only [go_sem, ↓reduceIte, reduceEqDiff, reduceAdd, reduceMul, reduceLeDiff, reduceLT])
    refine sortPart_own B S (List.length_pos_of_mem hW.z) (by omega) o fun H S' hp o => ?_
    (try simp only [go_sem, ↓reduceIte, reduceEqDiff, reduceAdd, reduceMul, reduceLeDiff, reduceLT])
    refine fz_own o hp.length_eq.symm fun H o => ?_
    (try simp only [go_sem, ↓reduceIte, reduceEqDiff, reduceAdd, reduceMul, reduceLeDiff, reduceLT])
    refine rets_ret (.inl ⟨S', ⟨hp.nodup_iff.mpr hW.nd, fun p => ?_⟩, rfl⟩) o.sub
    rw [hp.mem_iff]
    refine ⟨hW.sv p, all_parts h hW.z hW.sv (fun t ht x hx e he => ?_) p⟩
    obtain ⟨i, hi, rfl⟩ := mem_getD.mp ht
    refine hW.dn i hi _ ?_
    rw [← hP, gensF, List.mem_map]
    exact ⟨pairsE x e.toNat, mem_pairsN.mpr ⟨x, e.toNat, hx, by omega, rfl⟩, by simp [pairsE, Int.toNat_of_nonneg he.1]⟩
end Go.Proofs.Shf
namespace Go.Proofs.Shf
open Go.AW Go.Proofs Go.Shf
def AllQ (f : SF) (r : AV) : Prop := ∃ (L : List (List (List Int))) (k : Int), r = .tup [mL iLL L, iI k] ∧ (k = 0 → AllP f L)
theorem allPartsG_ok (B : Nat) (f : SF) : Rets B 38 [.agg f.cells] (AllQ f) := by
  intro H0
  refine c38p (by simp) fun _ => ?_
  unfold s38p
  (try simp only [go_sem, ↓reduceIte, reduceEqDiff, reduceAdd, reduceMul, reduceLeDiff, reduceLT])
  refine (isSetFunctor_ok B f).go fun _ => ?_
  (try simp only [go_sem, ↓reduceIte, reduceEqDiff, reduceAdd, reduceMul, reduceLeDiff, reduceLT])
  by_cases hI : f.Is
  · rw [dec_t hI]
    (try simp only [go_sem, ↓reduceIte, reduceEqDiff, reduceAdd, reduceMul, reduceLeDiff, reduceLT])
    have ho := hI.1.is.1.o
    have hsl := hI.1.sl
    obtain ⟨n, hn⟩ := elements_ok B f (by omega) hI.1.sz
    refine hn.go fun _ => ?_
    (try simp only [go_sem, ↓reduceIte, reduceEqDiff, reduceAdd, reduceMul, reduceLeDiff, reduceLT])
    refine ⟨fun h1 => At.mk ?_, fun h1 => At.mk ?_⟩
    · (try simp only [go_sem, ↓reduceIte, reduceEqDiff, reduceAdd, reduceMul, reduceLeDiff, reduceLT])
      exact rets_ret ⟨[], 3, rfl, fun h => by simp at h⟩ (.refl _)
    · (try simp only [go_sem, ↓reduceIte, reduceEqDiff, reduceAdd, reduceMul, reduceLeDiff, reduceLT])
      refine (allPartsF_ok B f hI 200 (by omega) (by omega)).go fun r _ hr => ?_
      rcases hr with ⟨L, hL, rfl⟩ | rfl
      · (try simp only [go_sem, ↓reduceIte, reduceEqDiff, reduceAdd, reduceMul, reduceLeDiff, reduceLT])
        exact rets_ret ⟨L, 0, rfl, fun _ => hL⟩ (.refl _)
      · (try simp only [go_sem, ↓reduceIte, reduceEqDiff, reduceAdd, reduceMul, reduceLeDiff, reduceLT])
        exact rets_ret ⟨[], 3, rfl, fun h => by simp at h⟩ (.refl _)
  · rw [dec_f hI]
    (try simp only [go_sem, ↓reduceIte, reduceEqDiff, reduceAdd, reduceMul, reduceLeDiff, reduceLT])
    exact rets_ret ⟨[], 1, rfl, fun h => by simp at h⟩ (.refl _)
end Go.Proofs.Shf
namespace Go.Proofs.Shf
open Go.AW Go.Proofs Go.Shf
theorem stepF {P : Nat → Prop} {j : Nat} (h : false = dec (∀ i, i < j → P i)) : false = dec (∀ i, i < j + 1 → P i) := by
  rw [dec_f fun k => dec_niff.mp h.symm fun i hi => k i (by omega)]
theorem stepT {P : Nat → Prop} {j : Nat} (h : true = dec (∀ i, i < j → P i)) {p : Prop} (hp : p ↔ P j) : dec p = dec (∀ i, i < j + 1 → P i) :=
  dec_congr ⟨fun q i hi => by
    by_cases e : i = j
    · subst e; exact hp.mp q
    · exact dec_iff.mp h.symm i (by omega), fun q => hp.mpr (q j (by omega))⟩
open Classical in
theorem fnSieves_ok (B : Nat) (hlib : LibSorts) (code : List UInt8) : Pur Tryz.prog B 5 [mL Go.AW.iB code] (.bool true) := by
  refine ⟨fun H0 => c5p (by simp) fun _ => ?_⟩
  unfold s5p
  have o : Owns H0 H0 [] := .nil _
  (try simp only [go_sem, ↓reduceIte, reduceEqDiff, reduceAdd, reduceMul, reduceLeDiff, reduceLT])
  refine (big_ok B code).go fun _ => ?_
  (try simp only [go_sem, ↓reduceIte, reduceEqDiff, reduceAdd, reduceMul, reduceLeDiff, reduceLT])
  refine ⟨fun g0 => At.mk ?_, fun g0 => At.mk ?_⟩
  · (try simp only [go_sem, ↓reduceIte, reduceEqDiff, reduceAdd, reduceMul, reduceLeDiff, reduceLT])
    exact pure_ret rfl (.refl _)
  (try simp only [go_sem, ↓reduceIte, reduceEqDiff, reduceAdd, reduceMul, reduceLeDiff, reduceLT])
  refine (drawImply_ok B code).go fun r _ ⟨c, x, s, t, e⟩ => ?_
  subst e
  (try simp only [go_sem, ↓reduceIte, reduceEqDiff, reduceAdd, reduceMul, reduceLeDiff, reduceLT])
  refine newRef_own o fun id3 H o => ?_
  (try simp only [go_sem, ↓reduceIte, reduceEqDiff, reduceAdd, reduceMul, reduceLeDiff, reduceLT])
  refine st_cells o (by simp) (by (try simp only [go_sem]); (try simp)) (by first | (simp only [go_sem]; done) | ((try simp only [go_sem]); simp [AV.one, one_mL])) fun H o => ?_
  simp only [wr_cons, wr_nil, List.set_cons_zero, List.set_cons_succ] at o
  (try simp only [go_sem, ↓reduceIte, reduceEqDiff, reduceAdd, reduceMul, reduceLeDiff, reduceLT])
  refine wk_ref 3 o rfl fun H o => wkW_done ?_
  (try simp only [go_sem, ↓reduceIte, reduceEqDiff, reduceAdd, reduceMul, reduceLeDiff, reduceLT])
  refine (implySieves_ok B c x s t).go fun _ => ?_
  (try simp only [go_sem, ↓reduceIte, reduceEqDiff, reduceAdd, reduceMul, reduceLeDiff, reduceLT])
  refine (implyS_ok B c x s t).go fun _ => ?_
  (try simp only [go_sem, ↓reduceIte, reduceEqDiff, reduceAdd, reduceMul, reduceLeDiff, reduceLT, dTrue])
  refine (likeInts_ok B _ _).go fun _ => ?_
  rw [dec_t rfl]
  (try simp only [go_sem, ↓reduceIte, reduceEqDiff, reduceAdd, reduceMul, reduceLeDiff, reduceLT])
  by_cases h0 : impC c x s t = 0
  rotate_left
  · rw [decide_eq_false h0, impL_f h0]
    (try simp only [go_sem, ↓reduceIte, reduceEqDiff, reduceAdd, reduceMul, reduceLeDiff, reduceLT, dTrue])
    exact pure_ret rfl o.sub
  rw [h0, impL_t h0]
  obtain ⟨⟨hc, hx⟩, hs, ht⟩ := impC_0.mp h0
  (try simp only [go_sem, ↓reduceIte, reduceEqDiff, reduceAdd, reduceMul, reduceLeDiff, reduceLT, dTrue])
  refine (isSieveG_ok B c hc x hx (impS c x s t)).go fun _ => ?_
  rw [dec_t (impS_sieve hc)]
  (try simp only [go_sem, ↓reduceIte, reduceEqDiff, reduceAdd, reduceMul, reduceLeDiff, reduceLT, dTrue])
  refine (allSieves_ok B hlib c hc x hx).go fun _ => ?_
  have hmk : ∃ (S : List (List Int)) (k4 : Int), (if Few c x.toNat then allS c x.toNat else []) = S ∧ (if Few c x.toNat then (0 : Int) else 3) = k4 ∧ (∀ r, r ∈ S → c.Sieve x r) ∧ (k4 = 0 ∨ k4 = 3) ∧ S.length ≤ 16 ∧ (k4 = 0 → S.Nodup ∧ ∀ r, r ∈ S ↔ c.Sieve x r) := by
    have ex : (x.toNat : Int) = x := Int.toNat_of_nonneg hx.1
    by_cases hF : Few c x.toNat
    · rw [if_pos hF, if_pos hF]
      have ha := allS_is hF
      rw [ex] at ha ⊢
      exact ⟨_, _, rfl, rfl, fun r hr => (ha.1.mem r).mp hr, .inl rfl, ha.2, fun _ => ⟨ha.1.nodup, ha.1.mem⟩⟩
    · rw [if_neg hF, if_neg hF]
      exact ⟨_, _, rfl, rfl, by simp, .inr rfl, by simp, by simp⟩
  obtain ⟨S, k4, e1, e2, hSs, hk4, hSl, hSa⟩ := hmk
  rw [e1, e2]
  clear e1 e2
  have hadj : ∀ r, r ∈ S → ((∀ a, a ∈ r → a ∈ impS c x s t) ↔ ∀ a, a ∈ r → a ∈ s → a ∈ t) := fun r hr => impS_adj hc (hSs r hr)
  (try simp only [go_sem, ↓reduceIte, reduceEqDiff, reduceAdd, reduceMul, reduceLeDiff, reduceLT])
  refine ⟨fun h4 => At.mk ?_, fun h4 => At.mk ?_⟩
  focus
    have h4p : ¬ k4 = 0 := by simpa using h4
    have h43 : k4 = 3 := hk4.resolve_left h4p
    (try simp only [go_sem, ↓reduceIte, reduceEqDiff, reduceAdd, reduceMul, reduceLeDiff, reduceLT, h4])
    rw [decide_eq_true h43]
    (try simp only [go_sem, ↓reduceIte, reduceEqDiff, reduceAdd, reduceMul, reduceLeDiff, reduceLT])
  rotate_left 1
  focus
    (try simp only [go_sem, ↓reduceIte, reduceEqDiff, reduceAdd, reduceMul, reduceLeDiff, reduceLT, h4])
  all_goals
    refine awp_for [0, 3, 4, 5, 6, 7, 13, 14] (fun k _ => [(15, some (.int .i64 (k : Int)))]) (fun k _ H' => H' = H) S.length () rfl rfl ?_
    rintro k _ H' hk rfl
    (try simp only [go_sem, ↓reduceIte, reduceEqDiff, reduceAdd, reduceMul, reduceLeDiff, reduceLT])
    refine ⟨fun l1 => At.mk ?_, fun l1 => At.mk ?_⟩
    · have l1p := of_decide l1
      have w1 := wsucc (k := k) (by omega)
      (try simp only [go_sem, ↓reduceIte, reduceEqDiff, reduceAdd, reduceMul, reduceLeDiff, reduceLT])
      generalize hr : S.getD k default = r
      have hrm : r ∈ S := by rw [← hr]; exact mem_getD.mpr ⟨k, l1p, rfl⟩
      have hrl := (hSs r hrm).len
      have hrm2 := hc.1.m
      have hra := hadj r hrm
      refine awp_for [0, 3, 4, 5, 6, 7, 13, 14, 15] (G := Bool × Bool) (fun j v => [(16, some (.bool v.1)), (17, some (.bool v.2)), (18, some (.int .i64 (j : Int)))])
        (fun j v H'' => H'' = H' ∧ v.1 = dec (∀ i, i < j → r.getD i default ∈ impS c x s t) ∧ v.2 = dec (∀ i, i < j → r.getD i default ∈ s → r.getD i default ∈ t)) r.length (true, true) ⟨rfl, (dec_t (by simp)).symm, (dec_t (by simp)).symm⟩ rfl ?_
      rintro j ⟨v1, v2⟩ H'' hj ⟨rfl, hv1, hv2⟩
      replace hv1 : v1 = dec (∀ i, i < j → r.getD i default ∈ impS c x s t) := hv1
      replace hv2 : v2 = dec (∀ i, i < j → r.getD i default ∈ s → r.getD i default ∈ t) := hv2
      (try simp only [go_sem, ↓reduceIte, reduceEqDiff, reduceAdd, reduceMul, reduceLeDiff, reduceLT])
      refine ⟨l1p, ?_⟩
      rw [hr]
      (try simp only [go_sem, ↓reduceIte, reduceEqDiff, reduceAdd, reduceMul, reduceLeDiff, reduceLT])
      refine ⟨fun l2 => At.mk ?_, fun l2 => At.mk ?_⟩
      · have l2p := of_decide l2
        have w2 := wsucc (k := j) (by omega)
        (try simp only [go_sem, ↓reduceIte, reduceEqDiff, reduceAdd, reduceMul, reduceLeDiff, reduceLT])
        cases v1
        · (try simp only [go_sem, ↓reduceIte, reduceEqDiff, reduceAdd, reduceMul, reduceLeDiff, reduceLT])
          cases v2
          · (try simp only [go_sem, ↓reduceIte, reduceEqDiff, reduceAdd, reduceMul, reduceLeDiff, reduceLT, w2])
            exact for_next (false, false) l2p ⟨rfl, stepF hv1, stepF hv2⟩ rfl
          · (try simp only [go_sem, ↓reduceIte, reduceEqDiff, reduceAdd, reduceMul, reduceLeDiff, reduceLT])
            refine ⟨l1p, ?_⟩
            rw [hr]
            (try simp only [go_sem, ↓reduceIte, reduceEqDiff, reduceAdd, reduceMul, reduceLeDiff, reduceLT])
            refine ⟨l2p, (hasInt_ok ..).go fun _ => ?_⟩
            (try simp only [go_sem, ↓reduceIte, reduceEqDiff, reduceAdd, reduceMul, reduceLeDiff, reduceLT])
            refine ⟨fun l5 => At.mk ?_, fun l5 => At.mk ?_⟩
            · (try simp only [go_sem, ↓reduceIte, reduceEqDiff, reduceAdd, reduceMul, reduceLeDiff, reduceLT, l5])
              have l5p := l5; simp only [bnt, bnf, decide_eq_true_eq, decide_eq_false_iff_not, dect, decf, Int.not_lt, Int.not_le, Nat.not_lt, Decidable.not_not, ne_eq, Bool.true_eq_false, Bool.false_eq_true] at l5p
              refine ⟨l1p, ?_⟩
              rw [hr]
              (try simp only [go_sem, ↓reduceIte, reduceEqDiff, reduceAdd, reduceMul, reduceLeDiff, reduceLT])
              refine ⟨l2p, (hasInt_ok ..).go fun _ => ?_⟩
              (try simp only [go_sem, ↓reduceIte, reduceEqDiff, reduceAdd, reduceMul, reduceLeDiff, reduceLT, w2])
              exact for_next (false, dec (r.getD j default ∈ t)) l2p ⟨rfl, stepF hv1, stepT hv2 ⟨fun h _ => h, fun h => h l5p⟩⟩ rfl
            · (try simp only [go_sem, ↓reduceIte, reduceEqDiff, reduceAdd, reduceMul, reduceLeDiff, reduceLT, l5, w2])
              have l5p := l5; simp only [bnt, bnf, decide_eq_true_eq, decide_eq_false_iff_not, dect, decf, Int.not_lt, Int.not_le, Nat.not_lt, Decidable.not_not, ne_eq, Bool.true_eq_false, Bool.false_eq_true] at l5p
              exact for_next (false, true) l2p ⟨rfl, stepF hv1, (dec_t trivial).symm.trans (stepT hv2 ⟨fun _ h => absurd h l5p, fun _ => trivial⟩)⟩ rfl
        · (try simp only [go_sem, ↓reduceIte, reduceEqDiff, reduceAdd, reduceMul, reduceLeDiff, reduceLT])
          refine ⟨l1p, ?_⟩
          rw [hr]
          (try simp only [go_sem, ↓reduceIte, reduceEqDiff, reduceAdd, reduceMul, reduceLeDiff, reduceLT])
          refine ⟨l2p, (hasInt_ok ..).go fun _ => ?_⟩
          (try simp only [go_sem, ↓reduceIte, reduceEqDiff, reduceAdd, reduceMul, reduceLeDiff, reduceLT])
          cases v2
          · (try simp only [go_sem, ↓reduceIte, reduceEqDiff, reduceAdd, reduceMul, reduceLeDiff, reduceLT, w2])
            exact for_next (dec (r.getD j default ∈ impS c x s t), false) l2p ⟨rfl, stepT hv1 .rfl, stepF hv2⟩ rfl
          · (try simp only [go_sem, ↓reduceIte, reduceEqDiff, reduceAdd, reduceMul, reduceLeDiff, reduceLT])
            refine ⟨l1p, ?_⟩
            rw [hr]
            (try simp only [go_sem, ↓reduceIte, reduceEqDiff, reduceAdd, reduceMul, reduceLeDiff, reduceLT])
            refine ⟨l2p, (hasInt_ok ..).go fun _ => ?_⟩
            (try simp only [go_sem, ↓reduceIte, reduceEqDiff, reduceAdd, reduceMul, reduceLeDiff, reduceLT])
            refine ⟨fun l5 => At.mk ?_, fun l5 => At.mk ?_⟩
            · (try simp only [go_sem, ↓reduceIte, reduceEqDiff, reduceAdd, reduceMul, reduceLeDiff, reduceLT, l5])
              have l5p := l5; simp only [bnt, bnf, decide_eq_true_eq, decide_eq_false_iff_not, dect, decf, Int.not_lt, Int.not_le, Nat.not_lt, Decidable.not_not, ne_eq, Bool.true_eq_false, Bool.false_eq_true] at l5p
              refine ⟨l1p, ?_⟩
              rw [hr]
              (try simp only [go_sem, ↓reduceIte, reduceEqDiff, reduceAdd, reduceMul, reduceLeDiff, reduceLT])
              refine ⟨l2p, (hasInt_ok ..).go fun _ => ?_⟩
              (try simp only [go_sem, ↓reduceIte, reduceEqDiff, reduceAdd, reduceMul, reduceLeDiff, reduceLT, w2])
              exact for_next (dec (r.getD j default ∈ impS c x s t), dec (r.getD j default ∈ t)) l2p ⟨rfl, stepT hv1 .rfl, stepT hv2 ⟨fun h _ => h, fun h => h l5p⟩⟩ rfl
            · (try simp only [go_sem, ↓reduceIte, reduceEqDiff, reduceAdd, reduceMul, reduceLeDiff, reduceLT, l5, w2])
              have l5p := l5; simp only [bnt, bnf, decide_eq_true_eq, decide_eq_false_iff_not, dect, decf, Int.not_lt, Int.not_le, Nat.not_lt, Decidable.not_not, ne_eq, Bool.true_eq_false, Bool.false_eq_true] at l5p
              exact for_next (dec (r.getD j default ∈ impS c x s t), true) l2p ⟨rfl, stepT hv1 .rfl, (dec_t trivial).symm.trans (stepT hv2 ⟨fun _ h => absurd h l5p, fun _ => trivial⟩)⟩ rfl
      · have l2p := of_ndecide l2
        obtain rfl : j = r.length := by omega
        have he : v1 = v2 := by
          rw [hv1, hv2]
          exact dec_congr ((all_getD (p := fun a => a ∈ impS c x s t)).symm.trans (hra.trans (all_getD (p := fun a => a ∈ s → a ∈ t))))
        clear hv1 hv2
        subst he
        have hbq : (v1 == v1) = true := by cases v1 <;> rfl
        (try simp only [go_sem, ↓reduceIte, reduceEqDiff, reduceAdd, reduceMul, reduceLeDiff, reduceLT])
        rw [hbq]
        (try simp only [go_sem, ↓reduceIte, reduceEqDiff, reduceAdd, reduceMul, reduceLeDiff, reduceLT, w1])
        exact for_next () l1p rfl rfl
    · have l1p := of_ndecide l1
      (try simp only [go_sem, ↓reduceIte, reduceEqDiff, reduceAdd, reduceMul, reduceLeDiff, reduceLT])
      refine (roll_ok B code 9 _).mono' fun r H _ ⟨id, s2, e, hs2, o2⟩ => ?_
      subst e
      have o : Owns H0 H [(id, s2.obj)] := o.trans o2
      (try simp only [go_sem, ↓reduceIte, reduceEqDiff, reduceAdd, reduceMul, reduceLeDiff, reduceLT])
      obtain ⟨i1, _, _⟩ := hc.1.idArr hx
      refine (below_ok B c.frm.length).go hs2 o fun r s2 H _ ⟨a, e, ha0, ha1, _⟩ hs2 o => ?_
      subst e
      have ha : 0 ≤ a ∧ a.toNat < c.frm.length := ⟨ha0, by have := ha1 (by omega); omega⟩
      (try simp only [go_sem, ↓reduceIte, reduceEqDiff, reduceAdd, reduceMul, reduceLeDiff, reduceLT])
      refine (below_ok B c.frm.length).go hs2 o fun r s2 H _ ⟨b, e, hb0, hb1, _⟩ hs2 o => ?_
      subst e
      have hb : 0 ≤ b ∧ b.toNat < c.frm.length := ⟨hb0, by have := hb1 (by omega); omega⟩
      clear ha0 ha1 hb0 hb1
      have htl := hc.1.tol
      (try simp only [go_sem, ↓reduceIte, reduceEqDiff, reduceAdd, reduceMul, reduceLeDiff, reduceLT])
      refine ⟨ha, ?_⟩
      (try simp only [go_sem, ↓reduceIte, reduceEqDiff, reduceAdd, reduceMul, reduceLeDiff, reduceLT])
      refine ⟨fun m1 => At.mk ?_, fun m1 => At.mk ?_⟩
      focus
        have m1p : ix c.frm a = x := of_decide m1
        (try simp only [go_sem, ↓reduceIte, reduceEqDiff, reduceAdd, reduceMul, reduceLeDiff, reduceLT, m1])
        refine ⟨hb, ⟨ha.1, by omega⟩, ?_⟩
        (try simp only [go_sem, ↓reduceIte, reduceEqDiff, reduceAdd, reduceMul, reduceLeDiff, reduceLT])
        refine ⟨fun m2 => At.mk ?_, fun m2 => At.mk ?_⟩
        focus
          have m2p : ix c.frm b = ix c.to a := of_decide m2
          (try simp only [go_sem, ↓reduceIte, reduceEqDiff, reduceAdd, reduceMul, reduceLeDiff, reduceLT, m2])
          have hab := hc.1.comp ha hb m2p.symm
          have hsa : c.Sieve (ix c.frm a) s := by rw [m1p]; exact hs
          have hrow := hc.1.row' ha.2
          have hcl := hc.1.cl
          refine (pullSieve_ok B c hc a ha s hsa).go fun _ => ?_
          (try simp only [go_sem, ↓reduceIte, reduceEqDiff, reduceAdd, reduceMul, reduceLeDiff, reduceLT])
          refine (pullSieve_ok B c hc b hb (pullS c a s) (by rw [m2p]; exact pullS_sieve hc ha hsa)).go fun _ => ?_
          (try simp only [go_sem, ↓reduceIte, reduceEqDiff, reduceAdd, reduceMul, reduceLeDiff, reduceLT])
          refine ⟨_, (then9_ok B c a b ⟨ha.1, by omega⟩ ⟨hb.1, by omega⟩).run, ?_⟩
          (try simp only [go_sem, ↓reduceIte, reduceEqDiff, reduceAdd, reduceMul, reduceLeDiff, reduceLT])
          refine ⟨_, (pullSieve_ok B c hc (ix (ix c.comp a) b) hab.1 s (by rw [hab.2.1]; exact hsa)).run, ?_⟩
          rw [← pull_pull hc ha hb m2p.symm]
          (try simp only [go_sem, ↓reduceIte, reduceEqDiff, reduceAdd, reduceMul, reduceLeDiff, reduceLT, dTrue])
          rw [show IntKind.i64.wrap (IntKind.i64.wrap (0 + 0) + 0) = 0 by decide]
          (try simp only [go_sem, ↓reduceIte, reduceEqDiff, reduceAdd, reduceMul, reduceLeDiff, reduceLT, dTrue])
          refine (likeInts_ok B _ _).go fun _ => ?_
          rw [dec_t rfl]
          (try simp only [go_sem, ↓reduceIte, reduceEqDiff, reduceAdd, reduceMul, reduceLeDiff, reduceLT])
        rotate_left 1
        focus
          (try simp only [go_sem, ↓reduceIte, reduceEqDiff, reduceAdd, reduceMul, reduceLeDiff, reduceLT, m2])
      rotate_left 2
      focus
        (try simp only [go_sem, ↓reduceIte, reduceEqDiff, reduceAdd, reduceMul, reduceLeDiff, reduceLT, m1])
      all_goals
        refine (representableG_ok B c hc x hx).go fun r _ hr => ?_
        rcases hr with ⟨hf, rfl⟩ | ⟨hf, rfl⟩
        · (try simp only [go_sem, ↓reduceIte, reduceEqDiff, reduceAdd, reduceMul, reduceLeDiff, reduceLT])
          refine ⟨by simp only [maxL]; omega, newRef_own o fun id7 H o => ?_⟩
          (try simp only [go_sem, ↓reduceIte, reduceEqDiff, reduceAdd, reduceMul, reduceLeDiff, reduceLT])
          refine st_cells o (by simp) (by (try simp only [go_sem]); (try simp)) (by first | (simp only [go_sem]; done) | ((try simp only [go_sem]); simp [AV.one, one_mL])) fun H o => ?_
          simp only [wr_cons, wr_nil, List.set_cons_zero, List.set_cons_succ] at o
          (try simp only [go_sem, ↓reduceIte, reduceEqDiff, reduceAdd, reduceMul, reduceLeDiff, reduceLT])
          refine rd_celln o (by simp) ?_
          (try simp only [go_sem, ↓reduceIte, reduceEqDiff, reduceAdd, reduceMul, reduceLeDiff, reduceLT])
          refine (show CallH Tryz.prog B _ [.agg (repF c x).cells] H _ from (allPartsG_ok B (repF c x)).go fun r _ ⟨L, k, e, hk⟩ => ?_)
          subst e
          (try simp only [go_sem, ↓reduceIte, reduceEqDiff, reduceAdd, reduceMul, reduceLeDiff, reduceLT, dTrue])
          by_cases hk0 : k = 0
          · rw [decide_eq_true hk0]
            (try simp only [go_sem, ↓reduceIte, reduceEqDiff, reduceAdd, reduceMul, reduceLeDiff, reduceLT])
            by_cases h40 : k4 = 0
            · rw [decide_eq_true h40]
              (try simp only [go_sem, ↓reduceIte, reduceEqDiff, reduceAdd, reduceMul, reduceLeDiff, reduceLT])
              have hlen := parts_sieves hc hf (hk hk0) (hSa h40).1 (hSa h40).2
              exact pure_ret (by rw [decide_eq_true hlen]) o.sub
            · rw [decide_eq_false h40]
              (try simp only [go_sem, ↓reduceIte, reduceEqDiff, reduceAdd, reduceMul, reduceLeDiff, reduceLT])
              exact pure_ret rfl o.sub
          · rw [decide_eq_false hk0]
            (try simp only [go_sem, ↓reduceIte, reduceEqDiff, reduceAdd, reduceMul, reduceLeDiff, reduceLT])
            exact pure_ret rfl o.sub
        · (try simp only [go_sem, ↓reduceIte, reduceEqDiff, reduceAdd, reduceMul, reduceLeDiff, reduceLT])
          refine ⟨by simp only [maxL]; omega, newRef_own o fun id7 H o => ?_⟩
          (try simp only [go_sem, ↓reduceIte, reduceEqDiff, reduceAdd, reduceMul, reduceLeDiff, reduceLT])
          refine st_cells o (by simp) (by (try simp only [go_sem]); (try simp)) (by first | (simp only [go_sem]; done) | ((try simp only [go_sem]); simp [AV.one, one_mL])) fun H o => ?_
          simp only [wr_cons, wr_nil, List.set_cons_zero, List.set_cons_succ] at o
          (try simp only [go_sem, ↓reduceIte, reduceEqDiff, reduceAdd, reduceMul, reduceLeDiff, reduceLT])
          refine rd_celln o (by simp) ?_
          (try simp only [go_sem, ↓reduceIte, reduceEqDiff, reduceAdd, reduceMul, reduceLeDiff, reduceLT])
          refine (show CallH Tryz.prog B _ [.agg nilF.cells] H _ from (allPartsG_ok B nilF).go fun r _ ⟨L, k, e, hk⟩ => ?_)
          subst e
          (try simp only [go_sem, ↓reduceIte, reduceEqDiff, reduceAdd, reduceMul, reduceLeDiff, reduceLT, dTrue])
          rw [show decide ((3 : Int) = 0) = false from rfl]
          (try simp only [go_sem, ↓reduceIte, reduceEqDiff, reduceAdd, reduceMul, reduceLeDiff, reduceLT])
          exact pure_ret rfl o.sub
end Go.Proofs.Shf
