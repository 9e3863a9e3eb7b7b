/- The laws over abstract values. -/
import Derived.Test.YtllfbkdekhemeaaGreatF6
import Derived.Test.YtllfbkdekhemeaaGreatProg
import Derived.Recover
import Derived.Tactics
import Derived.Deep.Slices
import Derived.SizedLaws
set_option linter.unusedVariables false
set_option linter.unusedSimpArgs false
set_option linter.unusedSectionVars false
set_option maxRecDepth 100000
open Nat (reduceEqDiff reduceAdd reduceMul reduceLeDiff reduceLT)
namespace Go.AW
theorem Owns.last {H0 H : Heap} {q : Ob} {x : Nat × MObj} (o : Owns H0 H (q ++ [x])) : Owns H0 H (x :: q) := o.perm List.perm_append_comm
end Go.AW
namespace Go.Proofs.Shf
open Go.AW Go.Proofs Go.Shf
theorem perm_rev3 (a b c : Ob) : (c ++ (b ++ a)).Perm (a ++ (b ++ c)) := by
 refine List.perm_append_comm.trans ?_
 rw [← List.append_assoc]
 exact List.Perm.append_right c List.perm_append_comm
theorem OSF.seven {p : Ob} {X : AV} {f : SF} (h : OSF p X f) : ∃ X1 X2 X3 X4 X5 X6, X = .agg [iI f.shape.objs, X1, X2, X3, X4, X5, X6] ∧ X1.one = true ∧ X2.one = true ∧ X3.one = true ∧ X4.one = true ∧ X5.one = true ∧ X6.one = true := by
 obtain ⟨X1, X2, X3, X4, X5, X6, a1, a2, a3, a4, a5, a6, rfl, rfl, b1, b2, b3, b4, b5, b6⟩ := h
 exact ⟨_, _, _, _, _, _, rfl, b1.one, b2.one, b3.one, b4.one, b5.one, b6.one⟩
end Go.Proofs.Shf
namespace Go.Shf
open Go.AW Go.Proofs.Shf
end Go.Shf
namespace Go.AW
end Go.AW
namespace Go.Proofs.Shf
open Go.AW Go.Proofs Go.Shf
end Go.Proofs.Shf
namespace Go.Shf
open Go.AW
end Go.Shf
namespace Go.Proofs.Shf
open Go.AW Go.Proofs Go.Shf
end Go.Proofs.Shf
namespace Go.Proofs.Shf
open Go.AW Go.Proofs Go.Shf
theorem code_cov {j : Top} {f : SF} (h : codeF j f = 0) : j.Form ∧ f.Is ∧ j.shape = f.shape ∧ CovOk f.shape (leastL f.shape j.covers) := by
 obtain ⟨hF, hf, hct, hsh⟩ := codeF_z h
 have htop : TopIs j.shape j.covers := by
  unfold codeT at hct
  rw [if_neg (fun e => e hF)] at hct
  split at hct
  ·cases hct
  ·split at hct
   ·assumption
   ·cases hct
 have hcov := least_cov hF.is hF.len (fun x hx s hs => by
  obtain ⟨k, hk, rfl⟩ := mem_getD.mp hs
  exact hF.sv x hx k hk) htop
 rw [hsh] at hcov
 exact ⟨hF, hf, hsh, hcov⟩
end Go.Proofs.Shf
namespace Go.Proofs.Shf
open Go.AW Go.Proofs Go.Shf
end Go.Proofs.Shf
namespace Go.Shf
open Go.AW Go.Proofs.Shf
end Go.Shf
namespace Go.Proofs.Shf
open Go.AW Go.Proofs Go.Shf
end Go.Proofs.Shf
namespace Go.Proofs.Shf
open Go.AW Go.Proofs
theorem catch_idle (p : Value) (w : World) : CallsD Tryz.prog 135 #[p] .returning w fun e u' w' => e = .returned (.tuple #[]) ∧ u' = .returning ∧ w' = w := by
 refine callsD_of_wpS Tryz.func135 rfl fun c₀ cs hu => ?_
 apply wpS_seq
 apply wpS_region
 simp [wpOpsS, go_sem, recoverD, hu, Tryz.ntmps135, Exit.thenS]
 refine wpS_cond (t := false) (by simp [Act.eval, Array.replicate]) ?_
 simp only [Bool.false_eq_true, if_false]
 refine wpS_of_wp (wp_skip ?_)
 cases c₀
 simp_all [bodyPostS, results, Tryz.results135]
theorem catch_pan {B : Nat} {g : Gh} {H : Heap} {w : World} {id : Nat} {p : Value} (hW : WRel g B H w) (hO : H.get id = some (.cells 1 [.bool false] 0)) (hp : VRel g (.ref id 0) p) (t : TypeId) (v : Value) :
  CallsD Tryz.prog 135 #[p] (.panicking [{ v := .iface t v, recovered := false }]) w fun e u' w' => e = .returned (.tuple #[]) ∧ u' = .panicking [{ v := .iface t v, recovered := true }] ∧
   ∃ g', g.le g' ∧ WRel g' B (H.set id (.cells 1 [.bool false] 0)) w' ∧ Below B w w' := by
 refine callsD_of_wpS Tryz.func135 rfl fun c₀ cs hu => ?_
 apply wpS_seq
 apply wpS_region
 simp [wpOpsS, go_sem, recoverD, hu, Tryz.ntmps135, Exit.thenS]
 refine wpS_cond (t := true) (by simp [Act.eval, Array.replicate]) ?_
 simp only [if_true]
 refine wpS_of_wp ?_
 refine wp_mono (awp_sound (B := B) (N := 3) (hs := []) (df := []) (.reg [⟨none, none, .st 1 (.t 0) (.c (.bool false))⟩]) _ (by kernel_rfl) (fun e σ H' => e = .norm ∧ H' = H.set id (.cells 1 [.bool false] 0)) g H w [(0, some (.ref id 0))] _ hW ?_ rfl rfl ?_) ?_
 ·intro t' x hx
  simp only [Env.get] at hx
  split at hx
  ·rename_i e; subst e; cases hx
   exact ⟨by simp [Array.replicate], by simpa [Array.replicate] using hp⟩
  ·cases hx
 ·simp only [go_sem, hO, ↓reduceIte]
  simp [maxL, wr, AV.one]
 ·intro e a' w' hq
  cases e with
  | normal =>
   obtain ⟨g', σ', H', q1, ⟨-, rfl⟩, q3, q4, q5, q6, q7⟩ := hq
   refine ⟨q7, .panicking [{ v := .iface t v, recovered := true }], ?_, .tuple #[], ?_, rfl, rfl, g', q1, q3, q5⟩
   ·cases c₀; rfl
   ·simp [results, Tryz.results135]
  | exit id =>
   obtain ⟨g', σ', H', q1, ⟨q2, _⟩, _⟩ := hq
   cases q2
  | ret =>
   obtain ⟨g', σ', H', q1, ⟨q2, _⟩, _⟩ := hq
   cases q2
  | goto l => exact hq.elim
  | panic ch => exact hq.elim
  | outgrown => exact hq.elim
theorem glued_ok {B : Nat} {f : FuncId} {ca : List AV} {b : Bool} {H0 : Heap} {K : Kont} (h : ∀ H, H0.sub H → CallX Tryz.prog B f ca H (fun _ H' => H.sub H' ∧ b = true) (fun H' => H.sub H' ∧ b = false))
  (hk : K (.bool b) H0) : CallH Tryz.prog B 90 [.fn (.func f) ca] H0 K := by
 refine ⟨⟨Tryz.f90, Tryz.func90, rfl, by kernel_rfl⟩, fun g w vs hW hv => ?_⟩
 refine calls_of_wp_defers Tryz.func90 rfl ?_
 obtain ⟨hsz, hE⟩ := erel_env (n := 6) hv (by simp)
 change (Code.wp _ _ _ { tmps := vs ++ Array.replicate (6 - vs.size) undef, defers := [] } w)
 generalize vs ++ Array.replicate (6 - vs.size) undef = tm at hsz hE
 refine wp_seq ?_
 refine wp_mono (awp_sound (B := B) (N := 6) (hs := []) (df := []) (.reg [⟨some 2, none, .alc [.bool false]⟩]) _ (by kernel_rfl) (fun e σ H' => e = .norm ∧ ∃ id, H0.get id = none ∧ σ = [(2, some (.ref id 0)), (0, some (.fn (.func f) ca))] ∧ H' = H0.set id (.cells 1 [.bool false] 0)) g H0 w _ _ hW hE hsz rfl ?_) ?_
 ·simp only [go_sem]
  refine ⟨by simp [maxL], fun id hn => ?_⟩
  simp only [go_sem]
  exact ⟨id, hn, rfl, rfl⟩
 intro e a' w' hq
 cases e with
 | normal =>
  obtain ⟨g1, σ', H', q1, ⟨-, id, hn, rfl, rfl⟩, q3, q4, q5, q6, q7⟩ := hq
  refine wp_seq ?_
  refine wp_region ?_
  change wpOps _ _ _ ([0] ++ [1]) _ _
  refine wpOps_append _ _ _ _ ?_
  refine ops_sound (B := B) (N := 6) (hs := []) (df := []) [0] [⟨some 3, none, .mkf (.func 135) [.t 2]⟩] (by kernel_rfl) (fun σ H' => σ = [(3, some (.fn (.func 135) [.ref id 0])), (2, some (.ref id 0)), (0, some (.fn (.func f) ca))] ∧ H' = H0.set id (.cells 1 [.bool false] 0)) g1 _ w' _ a' _ q3 q4 q6 q7 ?_ ?_
  ·simp only [go_sem, ↓reduceIte]
  intro a2 w2 hq
  obtain ⟨g2, σ', H', r1, ⟨rfl, rfl⟩, r3, r4, r5, r6, r7⟩ := hq
  obtain ⟨cv, hev, hcr⟩ : ∃ cv, a2.tmps.getD 3 undef = .func (.func 135) #[] cv ∧ VRels g2 [.ref id 0] cv := by
   have := (r4 3 _ rfl).2
   generalize a2.tmps.getD 3 undef = u at this ⊢
   cases this
   exact ⟨_, rfl, by assumption, by assumption⟩
  obtain ⟨pv, rfl, hpv⟩ : ∃ pv, cv = #[pv] ∧ VRel g2 (.ref id 0) pv := by
   obtain ⟨l⟩ := cv
   obtain ⟨hs, hv⟩ := hcr
   match l, hs with
   | [x], _ => exact ⟨x, rfl, hv 0 (by simp)⟩
  simp only
  rw [wpOps_cons]
  apply Or.inl
  have hrun : (execOp a2.eval { dst := none, op := Op.defer { callee := Callee.value (Operand.tmp 3), args := #[], argTypes := #[] }, type := 0, pos := "l28_sheaves.go:112", after := #[{ on := 0, ground := Ground.data }], guard := none }).run Tryz.prog w2 =
    .ok (.defer ⟨.fn (.func 135) #[pv], #[]⟩) w2 := by
   simp [execOp, resolve, Act.eval, hev, Deferred.ofValue]
  unfold Oper.wp
  erw [hrun]
  rw [Oper.upon_defer]
  obtain ⟨tm2, df2⟩ := a2
  simp only at r4 r6 r7 hev
  subst r7
  change Code.wp _ _ _ { tmps := tm2, defers := [⟨.fn (.func 135) #[pv], #[]⟩] } w2
  clear hrun hev
  have hn0 : H0.sub (H0.set id (.cells 1 [.bool false] 0)) := Heap.sub_set _ hn (.refl H0)
  have hres : ∀ (σ : Env) (H' : Heap) (g' : Gh) (tm' : Array Value) (w' : World), g.le g' → WRel g' B H' w' → ERel g' [(2, some (.ref id 0))] tm' → Below B w w' → H'.get id = some (.cells 1 [.bool b] 0) → H0.sub H' →
    ∃ v, (results Tryz.f90 tm').run Tryz.prog w' = .ok v w' ∧ FinV g B w K v w' := fun σ H' g' tm' w' e1 e2 e3 e4 e5 e6 =>
   ret_run (rvs := [.cell 2 none]) (by kernel_rfl) (e := .ret) (σ := [(2, some (.ref id 0))]) (H := H') (a := { tmps := tm', defers := [] }) (by
    simp only [go_sem, ↓reduceIte]
    try rw [show rcV none (some (.ref id 0)) H' = some (.bool b) by simp [rcV, e5]]
    try rw [e5]
    simp only [go_sem]
    exact ⟨H0, e6, hk⟩) e1 e2 e3 e4
  have hinv : ∀ w, (invoke (.fn (.func 135) #[pv]) #[]).run Tryz.prog w = .ok (.enter 135 #[pv]) w := fun w => by
   simp only [Go.invoke, callFunc, Sem.run_bind, run_program, Result.andThen_ok, Tryz.func135, show Tryz.f135.body.isNone = false from rfl, show (Tryz.f135.name == "runtime.NumGoroutine") = false by kernel_rfl, Bool.false_eq_true, if_false, Sem.run_pure, Array.empty_append]
  refine wp_seq ?_
  refine wp_region ?_
  change wpOps _ _ _ ([0] ++ [1]) _ _
  refine wpOps_append _ _ _ _ ?_
  refine ops_sound (B := B) (N := 6) (hs := []) (df := [⟨.fn (.func 135) #[pv], #[]⟩]) [0] [⟨some 4, none, .mv (.t 0)⟩] (by kernel_rfl) (fun σ H' => σ = [(4, some (.fn (.func f) ca)), (0, some (.fn (.func f) ca)), (2, some (.ref id 0))] ∧ H' = H0.set id (.cells 1 [.bool false] 0)) g2 _ w2 [(0, some (.fn (.func f) ca)), (2, some (.ref id 0))] _ _ r3 ?_ r6 rfl ?_ ?_
  ·exact fun t x hx => r4 t x (by
    simp only [Env.get_cons, get_nil] at hx ⊢
    by_cases e0 : t = 0
    ·subst e0; simpa using hx
    ·by_cases e2 : t = 2
     ·subst e2; simpa using hx
     ·simp [e0, e2] at hx)
  ·simp only [go_sem, ↓reduceIte]
  intro a3 w3 hq
  obtain ⟨g3, σ', H', s1, ⟨rfl, rfl⟩, s3, s4, s5, s6, s7⟩ := hq
  simp only
  rw [wpOps_cons]
  refine callx_op (B := B) (N := 6) (hs := []) (i := 1) (d := some 5) (f := .t 4) (xs := []) ⟨_, rfl, by kernel_rfl⟩ s3 (s4.keep _) (K := fun _ H' => (H0.set id (.cells 1 [.bool false] 0)).sub H' ∧ b = true) (X0 := fun H' => (H0.set id (.cells 1 [.bool false] 0)).sub H' ∧ b = false) ?_ ?_ ?_
  ·simp only [go_sem, ↓reduceIte]
   exact h _ hn0
  ·intro v w4 hf
   obtain ⟨g4, r, H4, u1, ⟨u2, hb⟩, u3, u4, u5⟩ := hf
   subst hb
   have e4 : ERel g4 [(2, some (.ref id 0))] a3.tmps := fun t x hx => (s4.mono u1) t x (by
    simp only [Env.get_cons, get_nil] at hx ⊢
    by_cases e2 : t = 2
    ·subst e2; simpa using hx
    ·simp [e2] at hx)
   have e5 : ERel g4 [(2, some (.ref id 0))] (a3.put (some 5) v).tmps := fun t x hx => by
    have := (e4.put (d := 5) (a := r) (v := v) (by omega) u3) t x (by
     simp only [Env.put, Env.get_cons, get_nil] at hx ⊢
     by_cases e2 : t = 2
     ·subst e2; simpa using hx
     ·simp [e2] at hx)
    exact this
   change Code.wp _ _ _ (a3.put (some 5) v) w4
   have hg4 := u2 id _ (Heap.get_set_same _ _ _)
   refine wp_seq ?_
   refine wp_mono (awp_sound (B := B) (N := 6) (hs := []) (df := [⟨.fn (.func 135) #[pv], #[]⟩]) (.reg [⟨none, none, .st 1 (.t 2) (.c (.bool true))⟩]) _ (by kernel_rfl) (fun e σ H' => e = .norm ∧ σ = [(2, some (.ref id 0))] ∧ H' = H4.set id (.cells 1 [.bool true] 0)) g4 H4 w4 [(2, some (.ref id 0))] _ u4 e5 (by rw [put_size]; exact s6) (by rw [put_defers]; exact s7) ?_) ?_
   ·simp only [go_sem, hg4, ↓reduceIte]
    simp [maxL, wr, AV.one]
   intro e a5 w5 hq
   cases e with
   | normal =>
    obtain ⟨g5, σ', H', v1, ⟨-, rfl, rfl⟩, v3, v4, v5, v6, v7⟩ := hq
    refine wp_ret ?_
    change Leaves Tryz.prog Tryz.f90 a5.tmps _ a5.defers .returning w5
    rw [v7]
    refine leaves_cons (f := 135) (args := #[pv]) (by simp) (hinv w5) ?_
    refine (catch_idle pv w5).mono ?_
    rintro e u' w'' ⟨rfl, rfl, rfl⟩
    obtain ⟨v, k1, k2⟩ := hres [] _ g5 a5.tmps w'' (q1.trans (r1.trans (s1.trans (u1.trans v1)))) v3 v4 (q5.trans (r5.trans (s5.trans (u5.trans v5)))) (Heap.get_set_same _ _ _) (Heap.sub_set _ hn (hn0.trans u2))
    exact ⟨v, k1, v, rfl, k2⟩
   | exit id =>
    obtain ⟨g', σ', H', q1, ⟨q2, _⟩, _⟩ := hq
    cases q2
   | ret =>
    obtain ⟨g', σ', H', q1, ⟨q2, _⟩, _⟩ := hq
    cases q2
   | goto l => exact hq.elim
   | panic ch => exact hq.elim
   | outgrown => exact hq.elim
  ·intro ch w4 hc hp
   obtain ⟨g4, H4, u1, ⟨u2, hb⟩, u3, u4⟩ := hp
   obtain ⟨t, v, rfl⟩ := hc
   subst hb
   change Leaves Tryz.prog Tryz.f90 a3.tmps _ a3.defers (.panicking [{ v := .iface t v, recovered := false }]) w4
   rw [s7]
   have hg4 := u2 id _ (Heap.get_set_same _ _ _)
   refine leaves_cons (f := 135) (args := #[pv]) (by simp) (hinv w4) ?_
   refine (catch_pan u3 hg4 (hpv.mono (s1.trans u1)) t v).mono ?_
   rintro e u' w'' ⟨rfl, rfl, g5, v1, v2, v3⟩
   have e4 : ERel g5 [(2, some (.ref id 0))] a3.tmps := fun t x hx => (s4.mono (u1.trans v1)) t x (by
    simp only [Env.get_cons, get_nil] at hx ⊢
    by_cases e2 : t = 2
    ·subst e2; simpa using hx
    ·simp [e2] at hx)
   obtain ⟨v, k1, k2⟩ := hres [] _ g5 a3.tmps w'' (q1.trans (r1.trans (s1.trans (u1.trans v1)))) v2 e4 (q5.trans (r5.trans (s5.trans (u4.trans v3)))) (Heap.get_set_same _ _ _) (Heap.sub_set _ hn (hn0.trans u2))
   exact ⟨v, k1, v, rfl, k2⟩
 | exit id =>
  obtain ⟨g', σ', H', q1, ⟨q2, _⟩, _⟩ := hq
  cases q2
 | ret =>
  obtain ⟨g', σ', H', q1, ⟨q2, _⟩, _⟩ := hq
  cases q2
 | goto l => exact hq.elim
 | panic ch => exact hq.elim
 | outgrown => exact hq.elim
end Go.Proofs.Shf
namespace Go.Proofs.Shf
open Go.AW Go.Proofs Go.Shf
theorem fsc {P : Program} {N : Nat} {hs : Hints} {s : SC} {c : Code} (h : compileC P N hs c = some s.strip) : FitsX P N hs (.sc s) c := h
def s92x : XC :=
 .seq (.sc (.reg [⟨some 8, none, .mv (.c (.int .i64 0))⟩]))
 (.keep [0, 1, 2, 3] (.seq (.sc (.reg [⟨some 10, none, .mv (.t 0)⟩, ⟨some 11, none, .mv (.t 1)⟩, ⟨some 12, none, .mv (.t 2)⟩, ⟨some 13, none, .mv (.t 3)⟩, ⟨some 14, none, .call (.c (.fn (.func 136) [])) [.t 10, .t 11, .t 12, .t 13]⟩, ⟨some 9, none, .mv (.t 14)⟩]))
 (.keep [9] (.seq (.seq (.sc (.reg [⟨some 15, none, .mv (.t 9)⟩, ⟨some 16, none, .len (.t 15)⟩, ⟨some 17, none, .ar .neq .i64 (.t 16) (.c (.int .i64 1))⟩]))
  (.keep [9, 17] (.cond (.t 17) (.pnc [⟨some 18, none, .bld [] []⟩, ⟨some 19, none, .mki 182 (.t 18)⟩] (.t 19)) (.sc .skip))))
 (.keep [9] (.seq (.sc (.reg [⟨some 20, none, .mv (.t 9)⟩, ⟨some 21, none, .idx 1 (.t 20) (.c (.int .i64 0))⟩, ⟨some 22, none, .ld none (.t 21)⟩, ⟨some 8, none, .mv (.t 22)⟩])) (.sc .ret)))))))
theorem fits92 : FitsX Tryz.prog Tryz.f92.ntmps [] s92x (Tryz.f92.body.getD .skip) :=
 ⟨fsc (by kernel_rfl), fsc (by kernel_rfl), ⟨fsc (by kernel_rfl), by kernel_rfl, ⟨_, _, rfl, rfl, by kernel_rfl, rfl, rfl, by kernel_rfl⟩, fsc (by kernel_rfl)⟩, fsc (by kernel_rfl), fsc (by kernel_rfl)⟩
theorem glue_x (B : Nat) (f : SF) (x : Int) (s t : List Int) (hx : 0 ≤ x ∧ x.toNat < f.sizes.length) (hz : ix f.sizes x ≤ 17) (hs : ∀ a, a ∈ s → 0 ≤ a ∧ a.toNat < f.acts.length) (he : ∀ a, a ∈ s → ((ix f.acts a).length : Int) = ix f.sizes x) (H0 : Heap) :
  CallX Tryz.prog B 92 [.ptr f.cells, .int .i64 x, iL s, iL t] H0 (fun r H' => (r = .int .i64 (ix (glue f x s t) 0) ∧ UniqG f x s t) ∧ H' = H0) (fun H' => ¬ UniqG f x s t ∧ H' = H0) := by
 refine CallX.of_xwp (hs := []) (s := s92x) (rvs := [.tmp 8]) Tryz.func92 rfl (by kernel_rfl) fits92 (by kernel_rfl) (by rw [Tryz.ntmps92]; simp) fun _ => ?_
 unfold s92x
 (try simp only [go_sem, reduceAdd])
 refine (amalgamations_ok B f x s t hx hz hs he).go fun _ => ?_
 (try simp only [go_sem])
 refine ⟨fun h1 => At.mk ?_, fun h1 => At.mk ?_⟩
 ·(try simp only [go_sem])
  have h1p := h1; simp only [bnt, decide_eq_false_iff_not] at h1p
  exact fun e => h1p (by simp only [UniqG] at e; omega)
 ·(try simp only [go_sem])
  have h1p := h1; simp only [bnf, decide_eq_true_eq] at h1p
  refine ⟨by omega, ?_⟩
  exact ⟨H0, .refl _, ⟨rfl, by simp only [UniqG]; omega⟩, rfl⟩
def s91x : XC :=
 .seq (.sc (.reg [⟨some 7, none, .ld none (.t 0)⟩, ⟨some 8, none, .len (.t 7)⟩, ⟨some 9, none, .mv (.c (.int .i64 0))⟩]))
 (.keep [1, 2, 3, 4, 7, 8, 9] (.block 0 (.loop [9, 1, 2, 3, 4, 7, 8] (.seq (.sc (.reg [⟨some 10, none, .ar .lss .i64 (.t 9) (.t 8)⟩]))
 (.keep [1, 2, 3, 4, 7, 8, 9, 10] (.seq (.sc (.cond (.t 10) .skip (.exit 0)))
 (.keep [1, 2, 3, 4, 7, 8, 9] (.seq (.block 1 (.seq (.sc (.reg [⟨some 11, none, .idx 1 (.t 7) (.t 9)⟩, ⟨some 12, none, .ld none (.t 11)⟩, ⟨some 6, none, .mv (.t 12)⟩]))
  (.keep [1, 2, 3, 4, 6, 7, 8, 9] (.callx [⟨some 13, none, .ld none (.t 1)⟩, ⟨some 14, none, .ld none (.t 2)⟩, ⟨some 15, none, .ld none (.t 3)⟩, ⟨some 16, none, .nck (.t 15)⟩, ⟨some 17, none, .fld 0 1 (.t 16)⟩, ⟨some 18, none, .ld none (.t 17)⟩, ⟨some 19, none, .nck (.t 18)⟩, ⟨some 20, none, .fld 7 1 (.t 19)⟩, ⟨some 21, none, .ld none (.t 20)⟩, ⟨some 22, none, .ld none (.t 2)⟩, ⟨some 23, none, .idx 1 (.t 21) (.t 22)⟩, ⟨some 24, none, .ld none (.t 23)⟩, ⟨some 25, none, .ld none (.t 4)⟩, ⟨some 26, none, .idx 1 (.t 24) (.t 25)⟩, ⟨some 27, none, .ld none (.t 26)⟩, ⟨some 28, none, .mv (.t 6)⟩] (some 29) (.c (.fn (.func 92) [])) [.t 13, .t 14, .t 27, .t 28]))))
 (.keep [1, 2, 3, 4, 7, 8, 9] (.sc (.reg [⟨some 30, none, .ar .add .i64 (.t 9) (.c (.int .i64 1))⟩, ⟨some 9, none, .mv (.t 30)⟩])))))))))))
def h91x : Hints := [(3, [0, 1, 2, 3, 4, 5, 6, 7, 8, 9, 10, 11, 12, 13, 14, 15, 16], [0, 0, 0, 0, 0, 0, 0, 0, 0, 0, 0, 0, 0, 0, 0, 0, 0])]
theorem fcx {P : Program} {N : Nat} {hs : Hints} {pre : List SOp} {d : Option Nat} {f : X} {xs : List X} {id : Nat} {ops : Array Oper} {dr : Bool} (h : lastX P N ops ((hs.lookup id).elim [] (·.2)) ((hs.lookup id).elim [] (·.1)) dr = some (pre, ⟨d, none, .call f xs⟩)) : FitsX P N hs (.callx pre d f xs) (.region id ops dr) := h
theorem fits91 : FitsX Tryz.prog Tryz.f91.ntmps h91x s91x (Tryz.f91.body.getD .skip) :=
 ⟨fsc (by kernel_rfl), rfl, fsc (by kernel_rfl), fsc (by kernel_rfl), ⟨rfl, fsc (by kernel_rfl), fcx (by kernel_rfl)⟩, fsc (by kernel_rfl)⟩
end Go.Proofs.Shf
namespace Go.AW
theorem xwp_for {P : Program} {B : Nat} {l : List Nat} {c : XC} {Q : AQ} {X0 : Heap → Prop} {σ : Env} {H : Heap} (lf : List Nat) {G : Type} (E : Nat → G → Env) (J : Nat → G → Heap → Prop) (n : Nat) (g : G)
  (h0 : J 0 g H) (he : Env.keep l σ = E 0 g ++ Env.keep lf σ)
  (h : ∀ k g H, k ≤ n → J k g H → xwp P B c (lpQ l (fun m σ' H => ∃ k g, k ≤ n ∧ m = n - k ∧ J k g H ∧ σ' = E k g ++ Env.keep lf σ) (n - k) Q) X0 (E k g ++ Env.keep lf σ) H) :
  xwp P B (.loop l c) Q X0 σ H :=
 ⟨fun m σ' H => ∃ k g, k ≤ n ∧ m = n - k ∧ J k g H ∧ σ' = E k g ++ Env.keep lf σ, n, _, _, ⟨0, g, by omega, rfl, h0, he⟩, .refl _ _,
  fun m σ H ⟨k, g, h1, h2, h3, h4⟩ => h2 ▸ h4 ▸ h k g H h1 h3⟩
end Go.AW
namespace Go.Proofs.Shf
open Go.AW Go.Proofs Go.Shf
theorem doGlue_x (B : Nat) (f : SF) (h : f.Shape) (v : Cov) (cnt : AV) (x s : Nat) (L : List (List Int)) (H : Heap) (i9 i5 i7 : Nat) (h9 : H.get i9 = some (.cells 1 [iLL L] 0)) (h5 : H.get i5 = some (.cells 1 [.int .i64 x] 0)) (h7 : H.get i7 = some (.cells 1 [.int .i64 s] 0))
  (hx : x < f.sizes.length) (hvx : x < v.sieves.length) (hvs : s < (v.sieves.getD x default).length) (hsv : f.shape.Sieve x ((v.sieves.getD x default).getD s default)) (hL : L.length ≤ 1000) :
  CallX Tryz.prog B 91 [.ref i9 0, .ptr [.ptr f.cells], .ref i5 0, .ptr [.ptr (v.cells cnt)], .ref i7 0] H (fun _ H' => H.sub H' ∧ dec (∀ t, t ∈ L → UniqG f x ((v.sieves.getD x default).getD s default) t) = true)
   (fun H' => H.sub H' ∧ dec (∀ t, t ∈ L → UniqG f x ((v.sieves.getD x default).getD s default) t) = false) := by
 have hal := h.al
 have hsl := h.sl
 have hz := h.sizeAt (y := (x : Int)) ⟨by omega, by omega⟩
 have hgl := fun t => glue_x B f x ((v.sieves.getD x default).getD s default) t ⟨by omega, by simpa using hx⟩ (by omega) (fun a ha => by have := hsv.arr ha; omega) (fun a ha => by
  have hv := hsv.arr ha
  have h1 := h.actLen hv.1.2
  rw [hv.2] at h1
  exact h1)
 generalize hS : (v.sieves.getD x default).getD s default = S at *
 refine CallX.of_xwp (hs := h91x) (s := s91x) (rvs := []) Tryz.func91 rfl (by kernel_rfl) fits91 (by kernel_rfl) (by rw [Tryz.ntmps91]; simp) fun _ => ?_
 unfold s91x
 (try simp only [go_sem, reduceAdd, reduceLT, h9])
 refine xwp_for [1, 2, 3, 4, 7, 8] (G := Unit) (fun k _ => [(9, some (.int .i64 (k : Int)))]) (fun k _ H' => H' = H ∧ ∀ i, i < k → UniqG f x S (L.getD i default)) L.length () ⟨rfl, by simp⟩ rfl ?_
 rintro k _ H' hk ⟨rfl, hall⟩
 (try simp only [go_sem])
 refine ⟨fun h1 => At.mk ?_, fun h1 => At.mk ?_⟩
 ·have h1p := h1; simp only [decide_eq_true_eq] at h1p
  have w := wsucc (k := k) (by omega)
  (try simp only [go_sem, reduceAdd, reduceLeDiff, reduceLT, h9, h5, h7])
  refine ⟨h1p, hvx, hvs, ?_⟩
  rw [hS]
  refine (hgl (L.getD k default) H').mono ?_ ?_
  ·rintro r H ⟨⟨rfl, hu⟩, rfl⟩
   (try simp only [go_sem, w])
   exact for_next () h1p ⟨rfl, lt_succ_all hall hu⟩ rfl
  ·rintro H ⟨hu, rfl⟩
   exact ⟨.refl _, dec_f fun q => hu (q _ (mem_getD.mpr ⟨k, h1p, rfl⟩))⟩
 ·(try simp only [go_sem])
  have h1p := h1; simp only [decide_eq_false_iff_not, Nat.not_lt] at h1p
  exact ⟨H', .refl _, .refl _, dec_t (all_getD.mpr fun i hi => hall i (by omega))⟩
end Go.Proofs.Shf
namespace Go.Proofs.Shf
open Go.AW Go.Proofs Go.Shf
def MarkGood (f : SF) (v : Cov) (x s : Nat) : Prop := (v.marks.getD x default).getD s default = true → CovGood f x ((v.sieves.getD x default).getD s default)
def SheafM (f : SF) (v : Cov) : Prop := ∀ x, x < v.marks.length → ∀ s, s < (v.marks.getD x default).length → MarkGood f v x s
theorem isSheaf_ok (B : Nat) (v : Cov) (cnt : AV) (f : SF) (h : f.Shape) (hml : (v.marks.length : Int) = f.shape.objs) (hsl : v.sieves.length = v.marks.length)
  (hms : ∀ x, x < v.marks.length → (v.marks.getD x default).length ≤ (v.sieves.getD x default).length ∧ (v.marks.getD x default).length ≤ 1000000)
  (hsv : ∀ x, x < v.marks.length → ∀ s, s < (v.sieves.getD x default).length → f.shape.Sieve x ((v.sieves.getD x default).getD s default)) :
  Pur Tryz.prog B 50 [.ptr (v.cells cnt), .ptr f.cells] (.bool (dec (SheafM f v))) := by
 refine ⟨fun H0 => c50p (by simp) fun hfi => ?_⟩
 have hob := h.is.1.o
 have hfl := h.sl
 have hdo := doGlue_x B f h v cnt
 unfold s50p
 (try simp only [go_sem, reduceAdd, reduceLeDiff])
 refine awp_for [2, 3, 15, 16] (G := Unit) (fun k _ => [(17, some (.int .i64 (k : Int)))]) (fun k _ H => H0.sub H ∧ ∀ x, x < k → ∀ s, s < (v.marks.getD x default).length → MarkGood f v x s) v.marks.length () ⟨.refl _, by simp⟩ rfl ?_
 rintro x _ H hk ⟨hsub, hall⟩
 replace hsub : H0.sub H := hsub
 have o : Owns H0 H [] := ⟨hsub, by simp, by simp, by simp⟩
 (try simp only [go_sem])
 refine ⟨fun h1 => At.mk ?_, fun h1 => At.mk ?_⟩
 ·have h1p := h1; simp only [decide_eq_true_eq] at h1p
  have w := wsucc (k := x) (by omega)
  have hm1 := hms x h1p
  (try simp only [go_sem, reduceAdd])
  refine ⟨h1p, ?_⟩
  refine newRef_own o fun id5 H o => ?_
  (try simp only [go_sem])
  refine st_cells o (by simp) (by (try simp only [go_sem]); (try simp)) (by first | (simp only [go_sem]; done) | ((try simp only [go_sem]); simp [AV.one, one_mL])) fun H o => ?_
  simp only [wr_cons, wr_nil, List.set_cons_zero, List.set_cons_succ] at o
  (try simp only [go_sem])
  refine awp_for [2, 3, 5, 15, 16, 17, 22, 23] (G := Unit) (fun k _ => [(24, some (.int .i64 (k : Int)))]) (fun k _ H => Owns H0 H [(id5, .cells 1 [.int .i64 (x : Int)] 0)] ∧ ∀ s, s < k → MarkGood f v x s) (v.marks.getD x default).length () ⟨o, by simp⟩ rfl ?_
  clear o
  rintro s _ H hk2 ⟨o, hall2⟩
  replace o : Owns H0 H [(id5, .cells 1 [.int .i64 (x : Int)] 0)] := o
  (try simp only [go_sem])
  refine ⟨fun h2 => At.mk ?_, fun h2 => At.mk ?_⟩
  ·have h2p := h2; simp only [decide_eq_true_eq] at h2p
   have w2 := wsucc (k := s) (by omega)
   (try simp only [go_sem, reduceAdd])
   refine ⟨h2p, ?_⟩
   refine newRef_own o fun id7 H o => ?_
   (try simp only [go_sem])
   refine st_cells o (by simp) (by (try simp only [go_sem]); (try simp)) (by first | (simp only [go_sem]; done) | ((try simp only [go_sem]); simp [AV.one, one_mL])) fun H o => ?_
   simp only [wr_cons, wr_nil, List.set_cons_zero, List.set_cons_succ] at o
   (try simp only [go_sem])
   refine ⟨fun h3 => At.mk ?_, fun h3 => At.mk ?_⟩
   ·(try simp only [go_sem, w2])
    have h3p : (v.marks.getD x default).getD s default = false := by simpa using h3
    exact for_next () (by omega) ⟨o.tl, lt_succ_all hall2 fun e => by rw [h3p] at e; cases e⟩ rfl
   ·have h3p : (v.marks.getD x default).getD s default = true := by simpa using h3
    have hS := hsv x h1p s (by omega)
    have hq := fun L hL H i9 h9 h5 h7 => hdo x s L H i9 id5 id7 h9 h5 h7 (by omega) (by omega) (by omega) hS hL
    (try simp only [go_sem, reduceAdd, reduceLeDiff])
    refine rd_get o.tl.h0 (by simp) ?_
    (try simp only [go_sem])
    refine ⟨by omega, ?_⟩
    refine rd_get o.h0 (by simp) ?_
    (try simp only [go_sem])
    refine ⟨by omega, _, (families_ok B f h x ((v.sieves.getD x default).getD s default) hS 16 (by omega)).run, ?_⟩
    generalize hFa : famS f ((v.sieves.getD x default).getD s default) = Fa at *
    (try simp only [go_sem, reduceAdd, reduceLT])
    refine newRef_own o fun id9 H o => ?_
    (try simp only [go_sem])
    refine st_cells o (by simp) (by (try simp only [go_sem]); (try simp)) (by first | (simp only [go_sem]; done) | ((try simp only [go_sem]); simp [AV.one, one_mL])) fun H o => ?_
    simp only [wr_cons, wr_nil, List.set_cons_zero, List.set_cons_succ] at o
    (try simp only [go_sem])
    by_cases h4p : Fa.length ≤ 16
    ·have htk : Fa.take 17 = Fa := List.take_of_length_le (by omega)
     rw [htk] at o
     rw [decide_eq_true h4p]
     (try simp only [go_sem])
     refine glued_ok (b := dec (∀ t, t ∈ Fa → UniqG f x ((v.sieves.getD x default).getD s default) t)) (fun H1 hs1 => ?_) ?_
     ·exact hq Fa (by omega) H1 id9 (hs1 _ _ o.h0) (hs1 _ _ o.tl.tl.h0) (hs1 _ _ o.tl.h0)
     by_cases hu : ∀ t, t ∈ Fa → UniqG f x ((v.sieves.getD x default).getD s default) t
     ·rw [dec_t hu]
      (try simp only [go_sem, Bool.not_true, w2])
      refine for_next () (by omega) ⟨o.tl.tl, lt_succ_all hall2 fun _ => ⟨by rw [hFa]; exact h4p, by rw [hFa]; exact hu⟩⟩ rfl
     ·rw [dec_f hu]
      (try simp only [go_sem, Bool.not_false])
      exact pure_ret (by rw [dec_f]; exact fun q => hu (by have := (q x h1p s (by omega) h3p).2; rw [hFa] at this; exact this)) o.sub
    ·rw [decide_eq_false h4p]
     (try simp only [go_sem, Bool.not_false])
     exact pure_ret (by rw [dec_f]; exact fun q => h4p (by have := (q x h1p s (by omega) h3p).1; rw [hFa] at this; exact this)) o.sub
  ·(try simp only [go_sem, w])
   have h2p := h2; simp only [decide_eq_false_iff_not, Nat.not_lt] at h2p
   exact for_next () (by omega) ⟨o.sub, lt_succ_all hall fun s hs => hall2 s (by omega)⟩ rfl
 ·(try simp only [go_sem])
  have h1p := h1; simp only [decide_eq_false_iff_not, Nat.not_lt] at h1p
  exact pure_ret (by rw [dec_t]; exact fun x hx => hall x (by omega)) hsub
end Go.Proofs.Shf
namespace Go.Proofs.Shf
open Go.AW Go.Proofs Go.Shf
def SepAt (f : SF) (V : List (List Int)) (x : Nat) : Prop := ∀ e : Nat, e < (ix f.sizes x).toNat → UniqG f x (V.getD x default) (imgs f (V.getD x default) e)
theorem l28Separated_ok (B : Nat) (f : SF) (h : f.Shape) (V : List (List Int)) (c : CovOk f.shape V) : Pur Tryz.prog B 82 [.agg f.cells, iLL V] (.bool (dec (∀ x, x < V.length → SepAt f V x))) := by
 refine ⟨fun H0 => c82 (by simp) fun hfi => ?_⟩
 have hob := h.is.1.o
 have hfl := h.sl
 have hal := h.al
 have hvl := c.len
 unfold s82
 (try simp only [go_sem, reduceAdd])
 refine awp_for [1, 2] (G := Unit) (fun k _ => [(5, some (.int .i64 (k : Int)))]) (fun k _ H => H = H0 ∧ ∀ x, x < k → SepAt f V x) V.length () ⟨rfl, by simp⟩ rfl ?_
 rintro x _ H hk ⟨rfl, hall⟩
 (try simp only [go_sem, reduceAdd, reduceLeDiff])
 refine ⟨fun h1 => At.mk ?_, fun h1 => At.mk ?_⟩
 ·have h1p := h1; simp only [decide_eq_true_eq] at h1p
  have w := wsucc (k := x) (by omega)
  have hz := h.sizeAt (y := (x : Int)) ⟨by omega, by omega⟩
  have hixk : ix f.sizes x = f.sizes.getD x default := by simp only [ix_nat]
  have hsv := c.sv x (by omega)
  have hs1 : ∀ a, a ∈ V.getD x default → 0 ≤ a ∧ a.toNat < f.acts.length := fun a ha => by have := hsv.arr ha; omega
  have hs2 : ∀ a, a ∈ V.getD x default → ((ix f.acts a).length : Int) = ix f.sizes x := fun a ha => by
   have hv := hsv.arr ha
   have h1 := h.actLen hv.1.2
   rw [hv.2] at h1
   exact h1
  (try simp only [go_sem])
  refine awp_for [1, 2, 5] (G := Unit) (fun k _ => [(6, some (.int .i64 (k : Int)))]) (fun k _ H' => H' = H ∧ ∀ e : Nat, e < k → UniqG f x (V.getD x default) (imgs f (V.getD x default) e)) (ix f.sizes x).toNat () ⟨rfl, by simp⟩ rfl ?_
  rintro e _ H hk2 ⟨rfl, hall2⟩
  (try simp only [go_sem, reduceAdd, reduceLeDiff])
  refine ⟨by omega, ?_⟩
  refine ⟨fun h2 => At.mk ?_, fun h2 => At.mk ?_⟩
  ·have h2p := h2; simp only [decide_eq_true_eq] at h2p
   have w2 := wsucc (k := e) (by omega)
   (try simp only [go_sem, reduceAdd])
   refine ⟨by omega, by omega, _, (l28Images_ok B f (V.getD x default) e hs1 (by omega) (fun a ha => by have := hs2 a ha; omega)).run, ?_⟩
   refine ⟨_, (l28Glued_ok B f x (V.getD x default) (imgs f (V.getD x default) e) ⟨by omega, by omega⟩ (by omega) hs1 hs2).run, ?_⟩
   (try simp only [go_sem])
   refine ⟨fun h3 => At.mk ?_, fun h3 => At.mk ?_⟩
   ·(try simp only [go_sem])
    have h3p := h3; simp only [bnt, decide_eq_false_iff_not] at h3p
    exact pure_ret (by rw [dec_f]; intro q; have := q x (by omega) e (by omega); simp only [UniqG] at this; omega) (.refl _)
   ·(try simp only [go_sem, w2])
    have h3p := h3; simp only [bnf, decide_eq_true_eq] at h3p
    exact for_next () (by omega) ⟨rfl, lt_succ_all hall2 (by simp only [UniqG]; omega)⟩ rfl
  ·(try simp only [go_sem, w])
   have h2p := h2; simp only [decide_eq_false_iff_not, Int.not_lt] at h2p
   exact for_next () (by omega) ⟨rfl, lt_succ_all hall fun e he => hall2 e (by omega)⟩ rfl
 ·(try simp only [go_sem])
  have h1p := h1; simp only [decide_eq_false_iff_not, Int.not_lt] at h1p
  exact pure_ret (by rw [dec_t]; exact fun x hx => hall x (by omega)) (.refl _)
theorem l28Sheaf_ok (B : Nat) (f : SF) (h : f.Shape) (V : List (List Int)) (c : CovOk f.shape V) : Pur Tryz.prog B 43 [.agg f.cells, iLL V] (.bool (dec (SheafLeast f V))) := by
 refine ⟨fun H0 => c43 (by simp) fun hfi => ?_⟩
 have hob := h.is.1.o
 have hfl := h.sl
 have hvl := c.len
 unfold s43
 (try simp only [go_sem, reduceAdd])
 refine (l28Separated_ok B f h V c).go fun _ => ?_
 by_cases hsep : ∀ x, x < V.length → SepAt f V x
 rotate_left
 ·rw [dec_f hsep]
  (try simp only [go_sem, Bool.not_false])
  exact pure_ret (by rw [dec_f]; exact fun q => hsep fun x hx => (q x hx).1) (.refl _)
 rw [dec_t hsep]
 (try simp only [go_sem, Bool.not_true])
 refine awp_for [1, 2] (G := Unit) (fun k _ => [(5, some (.int .i64 (k : Int)))]) (fun k _ H => H = H0 ∧ ∀ x : Nat, x < k → ((famS f (V.getD x default)).length : Int) = ix f.sizes x) V.length () ⟨rfl, by simp⟩ rfl ?_
 rintro x _ H hk ⟨rfl, hall⟩
 (try simp only [go_sem, reduceAdd, reduceLeDiff])
 refine ⟨fun h1 => At.mk ?_, fun h1 => At.mk ?_⟩
 ·have h1p := h1; simp only [decide_eq_true_eq] at h1p
  have w := wsucc (k := x) (by omega)
  have hz := h.sizeAt (y := (x : Int)) ⟨by omega, by omega⟩
  have hixk : ix f.sizes x = f.sizes.getD x default := by simp only [ix_nat]
  obtain ⟨n, hn⟩ : ∃ n : Nat, f.sizes.getD x default = (n : Int) := ⟨(f.sizes.getD x default).toNat, by omega⟩
  have wn := wsucc (k := n) (by omega)
  have hfam := l28Families_ok B f x (V.getD x default) h (c.sv x (by omega)) (n + 1) (by omega) (by omega)
  (try simp only [go_sem, reduceAdd, reduceLeDiff])
  rw [hn]
  simp only [wn]
  refine ⟨by omega, by omega, _, hfam.run, ?_⟩
  (try simp only [go_sem, reduceAdd, reduceLeDiff])
  have hlen : ((famS f (V.getD x default)).take (n + 1)).length = min (n + 1) (famS f (V.getD x default)).length := List.length_take
  refine ⟨by omega, ?_⟩
  refine ⟨fun h3 => At.mk ?_, fun h3 => At.mk ?_⟩
  ·(try simp only [go_sem])
   have h3p := h3; simp only [bnt, decide_eq_false_iff_not] at h3p
   exact pure_ret (by rw [dec_f]; intro q; have := (q x (by omega)).2; omega) (.refl _)
  ·(try simp only [go_sem, w])
   have h3p := h3; simp only [bnf, decide_eq_true_eq] at h3p
   exact for_next () (by omega) ⟨rfl, lt_succ_all hall (by omega)⟩ rfl
 ·(try simp only [go_sem])
  have h1p := h1; simp only [decide_eq_false_iff_not, Int.not_lt] at h1p
  exact pure_ret (by rw [dec_t]; exact fun x hx => ⟨hsep x hx, hall x (by omega)⟩) (.refl _)
def ShB (j : Top) (f : SF) : Prop := codeF j f = 0 ∧ SheafLeast f (leastL j.shape j.covers)
theorem IsSheaf_ok (B : Nat) (j : Top) (f : SF) : Pur Tryz.prog B 12 [.agg j.cells, .agg f.cells] (.tup [.bool (dec (ShB j f)), .int .i64 (codeF j f)]) := by
 refine ⟨fun H0 => c12 (by simp) fun hfi => ?_⟩
 unfold s12
 have hl := l27Least_ok B j
 (try simp only [go_sem, reduceAdd])
 refine (l28Code_ok B j f).go fun _ => ?_
 by_cases h0 : codeF j f = 0
 ·obtain ⟨hF, hf, hsh, hcov⟩ := code_cov h0
  rw [← hsh] at hcov
  have hq := fun c => l28Sheaf_ok B f hf.1 (leastL j.shape j.covers) c
  rw [h0]
  (try simp only [go_sem])
  refine ⟨fun e => (by simp at e), fun _ => At.mk ?_⟩
  (try simp only [go_sem, reduceAdd])
  refine ⟨_, hl.run, ?_⟩
  refine ⟨_, (hq (by rw [← hsh]; exact hcov)).run, ?_⟩
  exact pure_ret (by congr 3; exact dec_congr ⟨fun q => ⟨h0, q⟩, fun q => q.2⟩) (.refl _)
 ·(try simp only [go_sem])
  refine ⟨fun _ => At.mk ?_, fun e => ?_⟩
  rotate_left
  ·exact absurd (by simpa using e) h0
  (try simp only [go_sem])
  exact pure_ret (by rw [dec_f]; exact fun q => h0 q.1) (.refl _)
end Go.Proofs.Shf
namespace Go.Proofs.Shf
open Go.AW Go.Proofs Go.Shf
theorem isSheaf_at (B : Nat) (j : Top) (f : SF) (cnt : AV) (h0 : codeF j f = 0) : Pur Tryz.prog B 50 [.ptr ((covV j).cells cnt), .ptr f.cells] (.bool (dec (SheafLeast f (leastL j.shape j.covers)))) := by
 obtain ⟨hF, hf, hct, hsh⟩ := codeF_z h0
 have haf : AllFew j.shape := by
  unfold codeT at hct
  rw [if_neg (fun e => e hF)] at hct
  apply Classical.byContradiction; intro e
  rw [if_pos e] at hct; cases hct
 have htop : TopIs j.shape j.covers := by
  unfold codeT at hct
  rw [if_neg (fun e => e hF), if_neg (fun e => e haf)] at hct
  apply Classical.byContradiction; intro e
  rw [if_neg e] at hct; cases hct
 have tab := tabOk hF.is haf
 have hml : (covV j).marks.length = (listsOf j.shape).length := marks_len
 have hmk : MarkOk (listsOf j.shape) (covV j).marks := markOk
 have hsv : (covV j).sieves = listsOf j.shape := rfl
 have hLl : (listsOf j.shape).length = j.covers.length := by have := tab.len; have := hF.len; omega
 have hcs : ∀ x : Nat, x < j.covers.length → ∀ s, s ∈ j.covers.getD x default → j.shape.Sieve x s := fun x hx s hs => by
  obtain ⟨k, hk, rfl⟩ := mem_getD.mp hs
  exact hF.sv x hx k hk
 have hst := isSheaf_ok B (covV j) cnt f hf.1 (by rw [hml, ← hsh]; exact tab.len) hml.symm (fun x hx => by
  have hx' : x < (listsOf j.shape).length := by rw [← hml]; exact hx
  have h1 := hmk.row x hx'
  have h2 := tab.few x hx'
  rw [h1, hsv]
  exact ⟨Nat.le_refl _, by omega⟩) (fun x hx s hs => by
  rw [hsv] at hs ⊢
  rw [← hsh]
  exact tab.sv (by rw [← hml]; exact hx) hs)
 have key : SheafM f (covV j) ↔ SheafLeast f (leastL j.shape j.covers) := by
  have e := sheaf_iff hf.1 hf.compL (C := j.covers) (by rw [← hsh]; exact hF.len) (by rw [← hsh]; exact hcs) (by rw [← hsh]; exact htop)
  rw [← hsh] at e
  rw [← e]
  constructor
  ·intro q x hx s hs
   have hx' : x < (listsOf j.shape).length := by omega
   obtain ⟨k, hk, rfl⟩ := mem_getD.mp (((tab.all x hx').mem s).mpr (hcs x hx s hs))
   have hrow := hmk.row x hx'
   refine q x (by omega) k (by rw [hrow]; exact hk) ?_
   show ((marksOf (listsOf j.shape) j.covers).getD x default).getD k default = true
   rw [marks_at hx' hk, decide_eq_true_eq]
   exact hs
  ·intro q x hx s hs hm
   have hx' : x < (listsOf j.shape).length := by omega
   have hs' : s < ((listsOf j.shape).getD x default).length := by rw [← hmk.row x hx']; exact hs
   have hm2 : ((marksOf (listsOf j.shape) j.covers).getD x default).getD s default = true := hm
   rw [marks_at hx' hs', decide_eq_true_eq] at hm2
   exact q x (by omega) _ hm2
 rw [dec_congr key] at hst
 exact hst
theorem implIsSheaf_ok (B : Nat) (j : Top) (f : SF) : Pur Tryz.prog B 15 [.agg j.cells, .agg f.cells] (.tup [.bool (dec (ShB j f)), .int .i64 (codeF j f)]) := by
 refine ⟨fun H0 => c15 (by simp) fun _ => ?_⟩
 unfold s15
 have hsc := fun H => sheafCode_ok B j f H
 (try simp only [go_sem, reduceAdd])
 refine (hsc H0).mono ?_
 rintro r H ⟨rfl, X, rfl, hX⟩
 by_cases h0 : codeF j f = 0
 ·obtain ⟨cnt, rfl⟩ := hX h0
  have hst := isSheaf_at B j f cnt h0
  rw [h0]
  generalize hcc : (covV j).cells cnt = cv at *
  (try simp only [go_sem, reduceAdd, reduceLT])
  refine ⟨fun e => (by simp at e), fun _ => At.mk ?_⟩
  (try simp only [go_sem])
  refine hst.go fun _ => ?_
  (try simp only [go_sem])
  exact pure_ret (by congr 3; exact dec_congr ⟨fun q => ⟨h0, q⟩, fun q => q.2⟩) (.refl _)
 ·(try simp only [go_sem, reduceAdd, reduceLT])
  refine ⟨fun _ => At.mk ?_, fun e => ?_⟩
  rotate_left
  ·exact absurd (by simpa using e) h0
  (try simp only [go_sem])
  exact pure_ret (by rw [dec_f]; exact fun q => h0 q.1) (.refl _)
end Go.Proofs.Shf
namespace Go.Proofs.Shf
open Go.AW Go.Proofs Go.Shf
theorem perm_of_count {l r : Ob} (h : ∀ x, @List.count _ (@instBEqOfDecidableEq _ (Classical.typeDecidableEq _)) x l = @List.count _ (@instBEqOfDecidableEq _ (Classical.typeDecidableEq _)) x r) : l.Perm r := by
 letI : DecidableEq (Nat × MObj) := Classical.typeDecidableEq _
 exact List.perm_iff_count.mpr h
theorem st_rows {α : Type} {O : Ob → AV → α → Prop} {H0 H : Heap} {K : Kont} {id off m : Nat} {z Y : AV} {Xs : List AV} {l : Ob} (o : Owns H0 H ((id, .cells 1 (Xs ++ List.replicate (m + 1) z) 0) :: l)) (h1 : Y.one = true) (ho : off = Xs.length)
  (hk : ∀ H', Owns H0 H' ((id, .cells 1 ((Xs ++ [Y]) ++ List.replicate m z) 0) :: l) → K nv H') : st1 (H.get id) id off 1 [Y] K H := by
 subst ho
 have h0 := o.h0
 simp only at h0
 rw [h0, st1_c]
 refine ⟨⟨by omega, by simp, rfl, fun c hc => ?_⟩, ?_⟩
 ·rw [List.mem_singleton] at hc; subst hc; exact h1
 ·have e : wr (Xs ++ List.replicate (m + 1) z) Xs.length [Y] = (Xs ++ [Y]) ++ List.replicate m z := by
   simp only [wr, List.replicate_succ, List.append_assoc]
   rw [List.set_append_right _ _ (by simp)]
   simp
  rw [e]
  exact hk _ (o.put _)
theorem toInt64S_new (B : Nat) (l : List (Int)) : New Tryz.prog B 47 [iL l] fun p X => OL p X l := by
 refine ⟨fun H0 => c47p (by simp) fun ⟨hf, _⟩ => ?_⟩
 have hl := fine_mL_le hf
 simp only [maxL] at hl
 unfold s47p
 (try simp only [go_sem, reduceAdd])
 refine ⟨by simp [maxL] <;> omega, ?_⟩
 refine mks_own iI (.nil _) fun id H o => ?_
 (try simp only [go_sem])
 refine awp_for [0, 3] (fun k _ => [(4, some (.int .i64 (k : Int)))]) (fun k _ H => Owns H0 H [(id, .cells 1 ((l.take k).map iI ++ List.replicate (l.length - k) (.int .i64 0)) 0)]) l.length () o rfl ?_
 rintro k _ H hk o
 have hlen : (l.take k).length = k := by simp; omega
 (try simp only [go_sem])
 refine ⟨fun h1 => At.mk ?_, fun h1 => At.mk ?_⟩
 ·have h1 := of_decide h1
  have w1 := wsucc (k := k) (by omega)
  have hsub : l.length - k = (l.length - (k + 1)) + 1 := by omega
  rw [hsub] at o
  (try simp only [go_sem])
  refine ⟨h1, ?_⟩
  refine ⟨by omega, ?_⟩
  refine st_own (l.getD k default) o rfl (by omega) fun H o => ?_
  (try simp only [go_sem, w1])
  exact for_next () (by omega) (by rw [take_succ' l h1]; exact o) rfl
 ·(try simp only [go_sem])
  have h1 := of_ndecide h1
  have hsub : l.length - k = 0 := by omega
  have hkl : k = l.length := by omega
  rw [hsub] at o
  subst hkl
  rw [List.take_length, List.replicate_zero, List.append_nil] at o
  exact ⟨H, .refl H, _, .inr ⟨id, _, [], rfl, by simp, rowsI _⟩, o⟩
theorem toInt64SS_new (B : Nat) (l : List (List Int)) : New Tryz.prog B 48 [mL iL l] fun p X => OLL p X l := by
 refine ⟨fun H0 => c48p (by simp) fun ⟨hf, _⟩ => ?_⟩
 have hl := fine_mL_le hf
 simp only [maxL] at hl
 unfold s48p
 (try simp only [go_sem, reduceAdd])
 refine ⟨by simp [maxL] <;> omega, ?_⟩
 rw [rep_one]
 refine newBuf_own (.nil _) fun id H o => ?_
 (try simp only [go_sem])
 refine awp_for [0, 3] (G := List AV × Ob) (fun k _ => [(4, some (.int .i64 (k : Int)))]) (fun k g H => RowsG OL g.1 (l.take k) g.2 ∧ Owns H0 H ((id, .cells 1 (g.1 ++ List.replicate (l.length - k) .nilsl) 0) :: g.2)) l.length ([], []) ⟨.nil, o⟩ rfl ?_
 clear o
 rintro k ⟨Xs, q⟩ H hk ⟨hr, o⟩
 replace hr : RowsG OL Xs (l.take k) q := hr
 replace o : Owns H0 H ((id, .cells 1 (Xs ++ List.replicate (l.length - k) .nilsl) 0) :: q) := o
 have hlen : (l.take k).length = k := by simp; omega
 have hXl := hr.len
 (try simp only [go_sem])
 refine ⟨fun h1 => At.mk ?_, fun h1 => At.mk ?_⟩
 ·have h1 := of_decide h1
  have w1 := wsucc (k := k) (by omega)
  have hsub : l.length - k = (l.length - (k + 1)) + 1 := by omega
  rw [hsub] at o
  (try simp only [go_sem])
  refine ⟨h1, ?_⟩
  refine (toInt64S_new B (l.getD k default)).call o fun Y p H hY o => ?_
  (try simp only [go_sem])
  refine ⟨by omega, ?_⟩
  have o2 := o.perm (List.perm_middle (a := (id, MObj.cells 1 (Xs ++ List.replicate (l.length - (k + 1) + 1) .nilsl) 0)) (l₁ := p) (l₂ := q))
  rw [AV.cells_one hY.one]
  refine st_rows (O := OL) o2 hY.one (by omega) fun H o => ?_
  (try simp only [go_sem, w1])
  refine for_next (Xs ++ [Y], q ++ p) (by omega) ⟨?_, ?_⟩ rfl
  ·simp only
   rw [take_succ_getD l h1]
   refine hr.app ?_
   have := RowsG.cons hY RowsG.nil
   rw [List.append_nil] at this; exact this
  ·exact o.perm (List.Perm.cons _ List.perm_append_comm)
 ·(try simp only [go_sem])
  have h1 := of_ndecide h1
  have hkl : k = l.length := by omega
  subst hkl
  rw [List.take_length] at hr hXl
  rw [Nat.sub_self, List.replicate_zero, List.append_nil] at o
  exact ⟨H, .refl H, _, .inr ⟨id, Xs, q, rfl, by rw [hXl], hr⟩, o⟩
theorem toInt64SSS_new (B : Nat) (l : List (List (List Int))) : New Tryz.prog B 46 [mL iLL l] fun p X => OLLL p X l := by
 refine ⟨fun H0 => c46p (by simp) fun ⟨hf, _⟩ => ?_⟩
 have hl := fine_mL_le hf
 simp only [maxL] at hl
 unfold s46p
 (try simp only [go_sem, reduceAdd])
 refine ⟨by simp [maxL] <;> omega, ?_⟩
 rw [rep_one]
 refine newBuf_own (.nil _) fun id H o => ?_
 (try simp only [go_sem])
 refine awp_for [0, 3] (G := List AV × Ob) (fun k _ => [(4, some (.int .i64 (k : Int)))]) (fun k g H => RowsG OLL g.1 (l.take k) g.2 ∧ Owns H0 H ((id, .cells 1 (g.1 ++ List.replicate (l.length - k) .nilsl) 0) :: g.2)) l.length ([], []) ⟨.nil, o⟩ rfl ?_
 clear o
 rintro k ⟨Xs, q⟩ H hk ⟨hr, o⟩
 replace hr : RowsG OLL Xs (l.take k) q := hr
 replace o : Owns H0 H ((id, .cells 1 (Xs ++ List.replicate (l.length - k) .nilsl) 0) :: q) := o
 have hlen : (l.take k).length = k := by simp; omega
 have hXl := hr.len
 (try simp only [go_sem])
 refine ⟨fun h1 => At.mk ?_, fun h1 => At.mk ?_⟩
 ·have h1 := of_decide h1
  have w1 := wsucc (k := k) (by omega)
  have hsub : l.length - k = (l.length - (k + 1)) + 1 := by omega
  rw [hsub] at o
  (try simp only [go_sem])
  refine ⟨h1, ?_⟩
  refine (toInt64SS_new B (l.getD k default)).call o fun Y p H hY o => ?_
  (try simp only [go_sem])
  refine ⟨by omega, ?_⟩
  have o2 := o.perm (List.perm_middle (a := (id, MObj.cells 1 (Xs ++ List.replicate (l.length - (k + 1) + 1) .nilsl) 0)) (l₁ := p) (l₂ := q))
  rw [AV.cells_one hY.one]
  refine st_rows (O := OLL) o2 hY.one (by omega) fun H o => ?_
  (try simp only [go_sem, w1])
  refine for_next (Xs ++ [Y], q ++ p) (by omega) ⟨?_, ?_⟩ rfl
  ·simp only
   rw [take_succ_getD l h1]
   refine hr.app ?_
   have := RowsG.cons hY RowsG.nil
   rw [List.append_nil] at this; exact this
  ·exact o.perm (List.Perm.cons _ List.perm_append_comm)
 ·(try simp only [go_sem])
  have h1 := of_ndecide h1
  have hkl : k = l.length := by omega
  subst hkl
  rw [List.take_length] at hr hXl
  rw [Nat.sub_self, List.replicate_zero, List.append_nil] at o
  exact ⟨H, .refl H, _, .inr ⟨id, Xs, q, rfl, by rw [hXl], hr⟩, o⟩
theorem toCategory_new (B : Nat) (c : Cat) : New Tryz.prog B 45 [.agg c.cells] fun p X => OCat p X c := by
 refine ⟨fun H0 => c45 (by simp) fun hf => ?_⟩
 unfold s45
 (try simp only [go_sem, reduceAdd])
 refine ⟨by simp [maxL], newRef_own (.nil _) fun i1 H o => ?_⟩
 (try simp only [go_sem, reduceAdd])
 refine ⟨by simp [maxL], newRef_own o fun i2 H o => ?_⟩
 (try simp only [go_sem, reduceAdd, reduceLeDiff])
 refine st_cells o (by simp) (by (try simp only [go_sem]); (try simp)) (by first | (simp only [go_sem]; done) | ((try simp only [go_sem]); simp [AV.one, one_mL])) fun H o => ?_
 simp only [wr_cons, wr_nil, List.set_cons_zero, List.set_cons_succ] at o
 (try simp only [go_sem, reduceAdd, reduceLeDiff])
 refine (toInt64S_new B c.frm).call o fun X1 p1 H q1 o => ?_
 (try simp only [go_sem, reduceAdd, AV.cells_one q1.one])
 refine st_cells (o.perm List.perm_middle) (by simp) rfl (by simp [q1.one]) fun H o => ?_
 simp only [wr_cons, wr_nil, List.set_cons_zero, List.set_cons_succ] at o
 (try simp only [go_sem, reduceAdd, reduceLeDiff])
 refine (toInt64S_new B c.to).call o fun X2 p2 H q2 o => ?_
 (try simp only [go_sem, reduceAdd, AV.cells_one q2.one])
 refine st_cells (o.perm List.perm_middle) (by simp) rfl (by simp [q2.one]) fun H o => ?_
 simp only [wr_cons, wr_nil, List.set_cons_zero, List.set_cons_succ] at o
 (try simp only [go_sem, reduceAdd, reduceLeDiff])
 refine (toInt64S_new B c.idn).call o fun X3 p3 H q3 o => ?_
 (try simp only [go_sem, reduceAdd, AV.cells_one q3.one])
 refine st_cells (o.perm List.perm_middle) (by simp) rfl (by simp [q3.one]) fun H o => ?_
 simp only [wr_cons, wr_nil, List.set_cons_zero, List.set_cons_succ] at o
 (try simp only [go_sem, reduceAdd, reduceLeDiff])
 refine (toInt64SS_new B c.comp).call o fun X4 p4 H q4 o => ?_
 (try simp only [go_sem, reduceAdd, AV.cells_one q4.one])
 refine st_cells (o.perm List.perm_middle) (by simp) rfl (by simp [q4.one]) fun H o => ?_
 simp only [wr_cons, wr_nil, List.set_cons_zero, List.set_cons_succ] at o
 (try simp only [go_sem])
 refine rd_celln o (by simp) ?_
 have v1 := q1.one
 have v2 := q2.one
 have v3 := q3.one
 have v4 := q4.one
 (try simp only [go_sem])
 have o := Owns.last (q := p4 ++ (p3 ++ (p2 ++ p1))) (by simpa only [List.append_assoc] using o.tl)
 refine st_cells o (by simp) rfl (by simp only [memcons, memnil]; exact ⟨rfl, v1, v2, v3, v4, trivial⟩) fun H o => ?_
 simp only [wr_cons, wr_nil, List.set_cons_zero, List.set_cons_succ] at o
 (try simp only [go_sem])
 have hr := o.rc 5 0 (by simp)
 simp only [List.drop_zero] at hr
 rw [hr]
 exact ⟨H, .refl H, _, ⟨X1, X2, X3, X4, p1, p2, p3, p4, rfl, rfl, q1, q2, q3, q4⟩, o.tl.perm (perm_of_count fun x => by simp only [List.count_append]; omega)⟩
theorem OCat.five {p : Ob} {Xs : List AV} {c : Cat} (h : OCat p (.agg Xs) c) : Xs.length = 5 := by
 obtain ⟨X1, X2, X3, X4, p1, p2, p3, p4, e, _⟩ := h
 injection e with e
 subst e; rfl
theorem toTopology_new (B : Nat) (j : Top) : New Tryz.prog B 13 [.agg j.cells] fun p X => OTop p X j := by
 refine ⟨fun H0 => c13 (by simp) fun hf => ?_⟩
 unfold s13
 (try simp only [go_sem, reduceAdd])
 refine ⟨by simp [maxL], newRef_own (.nil _) fun i1 H o => ?_⟩
 (try simp only [go_sem, reduceAdd])
 refine ⟨by simp [maxL], newRef_own o fun i2 H o => ?_⟩
 (try simp only [go_sem, reduceAdd, reduceLeDiff])
 refine (toCategory_new B j.shape).call o fun Z p1 H q1 o => ?_
 obtain ⟨Xs, e⟩ : ∃ Xs : List AV, Z = .agg Xs := by
  obtain ⟨X1, X2, X3, X4, a1, a2, a3, a4, rfl, rfl, b1, b2, b3, b4⟩ := q1
  exact ⟨_, rfl⟩
 subst e
 have h5 := OCat.five q1
 have v := OCat.ones q1
 obtain ⟨Y0, Y1, Y2, Y3, Y4, rfl⟩ := len5 h5
 (try simp only [go_sem, reduceAdd])
 refine st_cells (o.perm List.perm_middle) (by simp) rfl v fun H o => ?_
 simp only [wr_cons, wr_nil, List.set_cons_zero, List.set_cons_succ] at o
 simp only [memcons, memnil] at v
 obtain ⟨w0, w1, w2, w3, w4, _⟩ := v
 (try simp only [go_sem, reduceAdd, reduceLeDiff])
 refine (toInt64SSS_new B j.covers).call o fun X5 p2 H q2 o => ?_
 have v5 := q2.one
 (try simp only [go_sem, reduceAdd, AV.cells_one v5])
 refine st_cells (o.perm List.perm_middle) (by simp) rfl (by simp [v5]) fun H o => ?_
 simp only [wr_cons, wr_nil, List.set_cons_zero, List.set_cons_succ] at o
 (try simp only [go_sem])
 refine rd_celln o (by simp) ?_
 (try simp only [go_sem])
 have o := Owns.last (q := p2 ++ p1) (by simpa only [List.append_assoc] using o.tl)
 refine st_cells o (by simp) rfl (by simp only [memcons, memnil]; exact ⟨w0, w1, w2, w3, w4, v5, trivial⟩) fun H o => ?_
 simp only [wr_cons, wr_nil, List.set_cons_zero, List.set_cons_succ] at o
 (try simp only [go_sem])
 have hr := o.rc 6 0 (by simp)
 simp only [List.drop_zero] at hr
 rw [hr]
 exact ⟨H, .refl H, _, OTop.mk q1 q2, o.tl.perm List.perm_append_comm⟩
theorem toSetFunctor_new (B : Nat) (f : SF) : New Tryz.prog B 14 [.agg f.cells] fun p X => OSF p X f := by
 refine ⟨fun H0 => c14 (by simp) fun hf => ?_⟩
 unfold s14
 (try simp only [go_sem, reduceAdd])
 refine ⟨by simp [maxL], newRef_own (.nil _) fun i1 H o => ?_⟩
 (try simp only [go_sem, reduceAdd])
 refine ⟨by simp [maxL], newRef_own o fun i2 H o => ?_⟩
 (try simp only [go_sem, reduceAdd, reduceLeDiff])
 refine (toCategory_new B f.shape).call o fun Z p1 H q1 o => ?_
 obtain ⟨Xs, e⟩ : ∃ Xs : List AV, Z = .agg Xs := by
  obtain ⟨X1, X2, X3, X4, a1, a2, a3, a4, rfl, rfl, b1, b2, b3, b4⟩ := q1
  exact ⟨_, rfl⟩
 subst e
 have h5 := OCat.five q1
 have v := OCat.ones q1
 obtain ⟨Y0, Y1, Y2, Y3, Y4, rfl⟩ := len5 h5
 (try simp only [go_sem, reduceAdd])
 refine st_cells (o.perm List.perm_middle) (by simp) rfl v fun H o => ?_
 simp only [wr_cons, wr_nil, List.set_cons_zero, List.set_cons_succ] at o
 simp only [memcons, memnil] at v
 obtain ⟨w0, w1, w2, w3, w4, _⟩ := v
 (try simp only [go_sem, reduceAdd, reduceLeDiff])
 refine (toInt64S_new B f.sizes).call o fun X5 p2 H q2 o => ?_
 have v5 := q2.one
 (try simp only [go_sem, reduceAdd, AV.cells_one v5])
 refine st_cells (o.perm List.perm_middle) (by simp) rfl (by simp [v5]) fun H o => ?_
 simp only [wr_cons, wr_nil, List.set_cons_zero, List.set_cons_succ] at o
 (try simp only [go_sem, reduceAdd, reduceLeDiff])
 refine (toInt64SS_new B f.acts).call o fun X6 p3 H q3 o => ?_
 have v6 := q3.one
 (try simp only [go_sem, reduceAdd, AV.cells_one v6])
 refine st_cells (o.perm List.perm_middle) (by simp) rfl (by simp [v6]) fun H o => ?_
 simp only [wr_cons, wr_nil, List.set_cons_zero, List.set_cons_succ] at o
 (try simp only [go_sem])
 refine rd_celln o (by simp) ?_
 (try simp only [go_sem])
 have o := Owns.last (q := p3 ++ (p2 ++ p1)) (by simpa only [List.append_assoc] using o.tl)
 refine st_cells o (by simp) rfl (by simp only [memcons, memnil]; exact ⟨w0, w1, w2, w3, w4, v5, v6, trivial⟩) fun H o => ?_
 simp only [wr_cons, wr_nil, List.set_cons_zero, List.set_cons_succ] at o
 (try simp only [go_sem])
 have hr := o.rc 7 0 (by simp)
 simp only [List.drop_zero] at hr
 rw [hr]
 exact ⟨H, .refl H, _, OSF.mk q1 q2 q3, o.tl.perm (perm_rev3 _ _ _)⟩
end Go.Proofs.Shf
namespace Go.AW
def W1 (a : AV) : Prop := (∃ l : List Int, a = iL l) ∨ ∃ n, 1048576 < n ∧ n ≤ 140737488355328 ∧ a = .big n
def WN (P : AV → Prop) (a : AV) : Prop := (∃ al : List AV, a = .sl al ∧ ∀ x, x ∈ al → P x) ∨ ∃ n, 1048576 < n ∧ n ≤ 140737488355328 ∧ a = .big n
abbrev W2 := WN W1
abbrev W3 := WN W2
theorem W1.cells {a : AV} (h : W1 a) : a.cells = [a] := by rcases h with ⟨l, rfl⟩ | ⟨n, _, _, rfl⟩ <;> rfl
theorem WN.cells {P : AV → Prop} {a : AV} (h : WN P a) : a.cells = [a] := by rcases h with ⟨l, rfl, _⟩ | ⟨n, _, _, rfl⟩ <;> rfl
def szK (Q : Int → Prop) (H0 : Heap) : Kont := fun r H' => H' = H0 ∧ ∃ n, r = .int .i64 n ∧ Q n
theorem sz_ret {Q : Int → Prop} {H0 H : Heap} {n : Int} (hs : H0.sub H) (h : Q n) : subW (szK Q H0) (.int .i64 n) H := ⟨H0, hs, rfl, n, rfl, h⟩
end Go.AW
namespace Go.Proofs.Shf
open Go.AW Go.Proofs Go.Shf
def SzQ {α : Type} (f : α → AV) (sz : α → Nat) (a : AV) (left n : Int) : Prop := -1 ≤ n ∧ n ≤ left ∧ (0 ≤ n → ∃ x, a = f x ∧ n + sz x ≤ left)
theorem szInt64S_w (B : Nat) (a : AV) (h : W1 a) (left : Int) (h0 : 0 ≤ left) (h1 : left ≤ 1048576) (H0 : Heap) : CallH Tryz.prog B 40 [a, .int .i64 left] H0 (szK (SzQ iL szL a left) H0) := by
 rcases h with ⟨l, rfl⟩ | ⟨n, hn1, hn2, rfl⟩
 ·refine PureF.of_fine ⟨_, Tryz.func40, by kernel_rfl, by kernel_rfl⟩ (r := .int .i64 (if left - (l.length : Int) < 0 then -1 else left - (l.length : Int))) (fun hf => ?_) H0 |>.mono ?_
  ·have hl := fine_mL_le hf.1
   simp only [maxL] at hl
   exact (szInt64S_ok B (iL l) l.length left (by simp [iL, mL, lenE]) (by omega) h0 h1).run
  ·rintro r H ⟨rfl, rfl⟩
   refine ⟨rfl, _, rfl, ?_⟩
   by_cases e : left - (l.length : Int) < 0
   ·rw [if_pos e]; exact ⟨by omega, by omega, fun h => by omega⟩
   ·rw [if_neg e]; exact ⟨by omega, by omega, fun _ => ⟨l, rfl, by simp only [szL]; omega⟩⟩
 ·refine ((szInt64S_ok B (.big n) n left (by simp [lenE]) (by omega) h0 h1).run H0).mono ?_
  rintro r H ⟨rfl, rfl⟩
  refine ⟨rfl, _, rfl, ?_⟩
  rw [if_pos (by omega)]
  exact ⟨by omega, by omega, fun h => by omega⟩
theorem szInt64SS_w (B : Nat) (a : AV) (h : WN W1 a) (left : Int) (h0 : 0 ≤ left) (h1 : left ≤ 1048576) (H0 : Heap) : CallH Tryz.prog B 41 [a, .int .i64 left] H0 (szK (SzQ iLL szLL a left) H0) := by
 refine c41 (by simp) fun hfi => ?_
 unfold s41
 rcases h with ⟨al, rfl, hW⟩ | ⟨n, hn1, hn2, rfl⟩
 rotate_left
 ·have w : IntKind.i64.wrap (left - n) = left - n := wrap_i64 (by omega) (by omega)
  (try simp only [go_sem, reduceAdd, lenE_big])
  rw [w]
  refine ⟨fun _ => At.mk ?_, fun e => ?_⟩
  rotate_left
  ·exfalso; have := of_ndecide e; omega
  (try simp only [go_sem])
  exact sz_ret (.refl _) ⟨by omega, by omega, fun h => by omega⟩
 ·by_cases hbig : left - (al.length : Int) < 0
  ·refine ?_
   by_cases hwr : al.length ≤ maxL
   ·have w : IntKind.i64.wrap (left - (al.length : Int)) = left - al.length := by simp only [maxL] at hwr; exact wrap_i64 (by omega) (by omega)
    (try simp only [go_sem, reduceAdd])
    rw [w]
    refine ⟨fun _ => At.mk ?_, fun e => ?_⟩
    rotate_left
    ·exfalso; have := of_ndecide e; omega
    (try simp only [go_sem])
    exact sz_ret (.refl _) ⟨by omega, by omega, fun h => by omega⟩
   ·exact absurd (AV.fine.sl_le hfi.1) hwr
  ·have hal : al.length ≤ 1048576 := by omega
   have w : IntKind.i64.wrap (left - (al.length : Int)) = left - al.length := wrap_i64 (by omega) (by omega)
   (try simp only [go_sem, reduceAdd])
   rw [w]
   refine ⟨fun e => ?_, fun _ => At.mk ?_⟩
   ·exfalso; have := of_decide e; omega
   (try simp only [go_sem])
   refine awp_for [0] (G := Int × List (List Int)) (fun k g => [(1, some (.int .i64 g.1)), (5, some (.int .i64 (k : Int)))])
    (fun k g H => H = H0 ∧ 0 ≤ g.1 ∧ g.2.length = k ∧ al.take k = g.2.map iL ∧ g.1 + (g.2.map szL).sum ≤ left - al.length) al.length (left - al.length, []) ⟨rfl, by simp only; omega, rfl, by simp, by simp⟩ rfl ?_
   rintro k ⟨u, D⟩ H hk ⟨rfl, hu, hD, hDe, hs⟩
   replace hu : 0 ≤ u := hu
   replace hD : D.length = k := hD
   replace hDe : al.take k = D.map iL := hDe
   replace hs : u + (D.map szL).sum ≤ left - al.length := hs
   (try simp only [go_sem])
   refine ⟨fun h2 => At.mk ?_, fun h2 => At.mk ?_⟩
   ·have h2p := of_decide h2
    have w2 := wsucc (k := k) (by omega)
    have hwk := hW (al.getD k nv) (by rw [List.getD_eq_getElem?_getD, List.getElem?_eq_getElem h2p]; simp)
    have hcl := hwk.cells
    (try simp only [go_sem])
    refine ⟨⟨h2p, by rw [hcl]; rfl⟩, ?_⟩
    rw [hcl]
    (try simp only [go_sem])
    refine (szInt64S_w B _ hwk u hu (by omega) H).mono ?_
    rintro r H' ⟨rfl, n, rfl, q1, q2, q3⟩
    by_cases hn : n < 0
    ·(try simp only [go_sem])
     refine ⟨fun _ => At.mk ?_, fun e => ?_⟩
     rotate_left
     ·exfalso; have := of_ndecide e; omega
     (try simp only [go_sem])
     exact sz_ret (.refl _) ⟨by omega, by omega, fun h => by omega⟩
    ·obtain ⟨x, hx, hxs⟩ := q3 (by omega)
     (try simp only [go_sem])
     refine ⟨fun e => ?_, fun _ => At.mk ?_⟩
     ·exfalso; have := of_decide e; omega
     (try simp only [go_sem, w2])
     refine for_next (n, D ++ [x]) h2p ⟨rfl, by simp only; omega, by simp [hD], ?_, ?_⟩ rfl
     ·simp only
      rw [List.map_append, ← hDe, List.take_add_one, List.getElem?_eq_getElem h2p]
      have : al[k] = iL x := by rw [← hx]; simp [List.getD_eq_getElem?_getD, h2p]
      rw [this]; rfl
     ·simp only [List.map_append, List.map_cons, List.map_nil, List.sum_append, List.sum_cons, List.sum_nil]
      omega
   ·have h2p := of_ndecide h2
    obtain rfl : k = al.length := by omega
    (try simp only [go_sem])
    refine sz_ret (.refl _) ⟨by omega, by omega, fun _ => ⟨D, ?_, ?_⟩⟩
    ·rw [List.take_length] at hDe; rw [hDe]; rfl
    ·simp only [szLL]; omega
theorem szInt64SSS_w (B : Nat) (a : AV) (h : WN W2 a) (left : Int) (h0 : 0 ≤ left) (h1 : left ≤ 1048576) (H0 : Heap) : CallH Tryz.prog B 39 [a, .int .i64 left] H0 (szK (SzQ iLLL szLLL a left) H0) := by
 refine c39 (by simp) fun hfi => ?_
 unfold s39
 rcases h with ⟨al, rfl, hW⟩ | ⟨n, hn1, hn2, rfl⟩
 rotate_left
 ·have w : IntKind.i64.wrap (left - n) = left - n := wrap_i64 (by omega) (by omega)
  (try simp only [go_sem, reduceAdd, lenE_big])
  rw [w]
  refine ⟨fun _ => At.mk ?_, fun e => ?_⟩
  rotate_left
  ·exfalso; have := of_ndecide e; omega
  (try simp only [go_sem])
  exact sz_ret (.refl _) ⟨by omega, by omega, fun h => by omega⟩
 ·by_cases hbig : left - (al.length : Int) < 0
  ·refine ?_
   by_cases hwr : al.length ≤ maxL
   ·have w : IntKind.i64.wrap (left - (al.length : Int)) = left - al.length := by simp only [maxL] at hwr; exact wrap_i64 (by omega) (by omega)
    (try simp only [go_sem, reduceAdd])
    rw [w]
    refine ⟨fun _ => At.mk ?_, fun e => ?_⟩
    rotate_left
    ·exfalso; have := of_ndecide e; omega
    (try simp only [go_sem])
    exact sz_ret (.refl _) ⟨by omega, by omega, fun h => by omega⟩
   ·exact absurd (AV.fine.sl_le hfi.1) hwr
  ·have hal : al.length ≤ 1048576 := by omega
   have w : IntKind.i64.wrap (left - (al.length : Int)) = left - al.length := wrap_i64 (by omega) (by omega)
   (try simp only [go_sem, reduceAdd])
   rw [w]
   refine ⟨fun e => ?_, fun _ => At.mk ?_⟩
   ·exfalso; have := of_decide e; omega
   (try simp only [go_sem])
   refine awp_for [0] (G := Int × List (List (List Int))) (fun k g => [(1, some (.int .i64 g.1)), (5, some (.int .i64 (k : Int)))])
    (fun k g H => H = H0 ∧ 0 ≤ g.1 ∧ g.2.length = k ∧ al.take k = g.2.map iLL ∧ g.1 + (g.2.map szLL).sum ≤ left - al.length) al.length (left - al.length, []) ⟨rfl, by simp only; omega, rfl, by simp, by simp⟩ rfl ?_
   rintro k ⟨u, D⟩ H hk ⟨rfl, hu, hD, hDe, hs⟩
   replace hu : 0 ≤ u := hu
   replace hD : D.length = k := hD
   replace hDe : al.take k = D.map iLL := hDe
   replace hs : u + (D.map szLL).sum ≤ left - al.length := hs
   (try simp only [go_sem])
   refine ⟨fun h2 => At.mk ?_, fun h2 => At.mk ?_⟩
   ·have h2p := of_decide h2
    have w2 := wsucc (k := k) (by omega)
    have hwk := hW (al.getD k nv) (by rw [List.getD_eq_getElem?_getD, List.getElem?_eq_getElem h2p]; simp)
    have hcl := hwk.cells
    (try simp only [go_sem])
    refine ⟨⟨h2p, by rw [hcl]; rfl⟩, ?_⟩
    rw [hcl]
    (try simp only [go_sem])
    refine (szInt64SS_w B _ hwk u hu (by omega) H).mono ?_
    rintro r H' ⟨rfl, n, rfl, q1, q2, q3⟩
    by_cases hn : n < 0
    ·(try simp only [go_sem])
     refine ⟨fun _ => At.mk ?_, fun e => ?_⟩
     rotate_left
     ·exfalso; have := of_ndecide e; omega
     (try simp only [go_sem])
     exact sz_ret (.refl _) ⟨by omega, by omega, fun h => by omega⟩
    ·obtain ⟨x, hx, hxs⟩ := q3 (by omega)
     (try simp only [go_sem])
     refine ⟨fun e => ?_, fun _ => At.mk ?_⟩
     ·exfalso; have := of_decide e; omega
     (try simp only [go_sem, w2])
     refine for_next (n, D ++ [x]) h2p ⟨rfl, by simp only; omega, by simp [hD], ?_, ?_⟩ rfl
     ·simp only
      rw [List.map_append, ← hDe, List.take_add_one, List.getElem?_eq_getElem h2p]
      have : al[k] = iLL x := by rw [← hx]; simp [List.getD_eq_getElem?_getD, h2p]
      rw [this]; rfl
     ·simp only [List.map_append, List.map_cons, List.map_nil, List.sum_append, List.sum_cons, List.sum_nil]
      omega
   ·have h2p := of_ndecide h2
    obtain rfl : k = al.length := by omega
    (try simp only [go_sem])
    refine sz_ret (.refl _) ⟨by omega, by omega, fun _ => ⟨D, ?_, ?_⟩⟩
    ·rw [List.take_length] at hDe; rw [hDe]; rfl
    ·simp only [szLLL]; omega
theorem szCategory_w (B : Nat) (n : Int) (a1 a2 a3 a4 : AV) (w1 : W1 a1) (w2 : W1 a2) (w3 : W1 a3) (w4 : W2 a4) (left : Int) (h0 : 0 ≤ left) (h1 : left ≤ 1048576) (H0 : Heap) :
  CallH Tryz.prog B 38 [.agg [iI n, a1, a2, a3, a4], .int .i64 left] H0 (szK (SzQ (fun c => .agg (Cat.cells c)) szCat (.agg [iI n, a1, a2, a3, a4]) left) H0) := by
 refine c38 (by simp) fun _ => ?_
 unfold s38
 have o1 : a1.one = true := by rcases w1 with ⟨l, rfl⟩ | ⟨n, _, _, rfl⟩ <;> rfl
 have o2 : a2.one = true := by rcases w2 with ⟨l, rfl⟩ | ⟨n, _, _, rfl⟩ <;> rfl
 have o3 : a3.one = true := by rcases w3 with ⟨l, rfl⟩ | ⟨n, _, _, rfl⟩ <;> rfl
 have o4 : a4.one = true := by rcases w4 with ⟨l, rfl, _⟩ | ⟨n, _, _, rfl⟩ <;> rfl
 (try simp only [go_sem, reduceAdd, reduceLeDiff])
 refine ⟨⟨o1, o2, o3, o4⟩, ?_⟩
 refine (szInt64S_w B a1 w1 left h0 h1 H0).mono ?_
 rintro r H ⟨rfl, u1, rfl, p1, p2, p3⟩
 (try simp only [go_sem])
 refine ⟨fun e1 => At.mk ?_, fun e1 => At.mk ?_⟩
 ·(try simp only [go_sem])
  exact sz_ret (.refl _) ⟨by omega, by omega, fun h => by omega⟩
 have e1p := of_ndecide e1
 obtain ⟨l1, rfl, s1⟩ := p3 (by omega)
 (try simp only [go_sem, reduceAdd, reduceLeDiff])
 refine (szInt64S_w B a2 w2 u1 (by omega) (by omega) H).mono ?_
 rintro r H ⟨rfl, u2, rfl, p4, p5, p6⟩
 (try simp only [go_sem])
 refine ⟨fun e2 => At.mk ?_, fun e2 => At.mk ?_⟩
 ·(try simp only [go_sem])
  exact sz_ret (.refl _) ⟨by omega, by omega, fun h => by omega⟩
 have e2p := of_ndecide e2
 obtain ⟨l2, rfl, s2⟩ := p6 (by omega)
 (try simp only [go_sem, reduceAdd, reduceLeDiff])
 refine (szInt64S_w B a3 w3 u2 (by omega) (by omega) H).mono ?_
 rintro r H ⟨rfl, u3, rfl, p7, p8, p9⟩
 (try simp only [go_sem])
 refine ⟨fun e3 => At.mk ?_, fun e3 => At.mk ?_⟩
 ·(try simp only [go_sem])
  exact sz_ret (.refl _) ⟨by omega, by omega, fun h => by omega⟩
 have e3p := of_ndecide e3
 obtain ⟨l3, rfl, s3⟩ := p9 (by omega)
 (try simp only [go_sem, reduceAdd, reduceLeDiff])
 refine (szInt64SS_w B a4 w4 u3 (by omega) (by omega) H).mono ?_
 rintro r H ⟨rfl, u4, rfl, p10, p11, p12⟩
 (try simp only [go_sem])
 refine ⟨fun e4 => At.mk ?_, fun e4 => At.mk ?_⟩
 ·(try simp only [go_sem])
  exact sz_ret (.refl _) ⟨by omega, by omega, fun h => by omega⟩
 have e4p := of_ndecide e4
 obtain ⟨l4, rfl, s4⟩ := p12 (by omega)
 (try simp only [go_sem])
 exact sz_ret (.refl _) ⟨by omega, by omega, fun _ => ⟨⟨n, l1, l2, l3, l4⟩, rfl, by simp only [szCat]; omega⟩⟩
theorem W1.one {a : AV} (h : W1 a) : a.one = true := by rcases h with ⟨l, rfl⟩ | ⟨n, _, _, rfl⟩ <;> rfl
theorem WN.one {P : AV → Prop} {a : AV} (h : WN P a) : a.one = true := by rcases h with ⟨l, rfl, _⟩ | ⟨n, _, _, rfl⟩ <;> rfl
theorem szTopology_w (B : Nat) (n : Int) (a1 a2 a3 a4 a5 : AV) (w1 : W1 a1) (w2 : W1 a2) (w3 : W1 a3) (w4 : W2 a4) (w5 : W3 a5) (left : Int) (h0 : 0 ≤ left) (h1 : left ≤ 1048576) (H0 : Heap) :
  CallH Tryz.prog B 10 [.agg [iI n, a1, a2, a3, a4, a5], .int .i64 left] H0 (szK (SzQ (fun c => .agg (Top.cells c)) szTop (.agg [iI n, a1, a2, a3, a4, a5]) left) H0) := by
 refine c10 (by simp) fun _ => ?_
 unfold s10
 have o1 := W1.one w1
 have o2 := W1.one w2
 have o3 := W1.one w3
 have o4 := WN.one w4
 have o5 := WN.one w5
 (try simp only [go_sem, reduceAdd, reduceLeDiff])
 refine ⟨⟨o1, o2, o3, o4, o5⟩, ?_⟩
 refine (szCategory_w B n a1 a2 a3 a4 w1 w2 w3 w4 left h0 h1 H0).mono ?_
 rintro r H ⟨rfl, u1, rfl, p1, p2, p3⟩
 (try simp only [go_sem])
 refine ⟨fun e1 => At.mk ?_, fun e1 => At.mk ?_⟩
 ·(try simp only [go_sem])
  exact sz_ret (.refl _) ⟨by omega, by omega, fun h => by omega⟩
 have e1p := of_ndecide e1
 obtain ⟨c, ec, s1⟩ := p3 (by omega)
 injection ec with ec
 simp only [Cat.cells, List.cons.injEq, and_true] at ec
 obtain ⟨en, rfl, rfl, rfl, rfl⟩ := ec
 (try simp only [go_sem, reduceAdd, reduceLeDiff])
 refine (szInt64SSS_w B a5 w5 u1 (by omega) (by omega) H).mono ?_
 rintro r H ⟨rfl, u2, rfl, p4, p5, p6⟩
 (try simp only [go_sem])
 refine ⟨fun e2 => At.mk ?_, fun e2 => At.mk ?_⟩
 ·(try simp only [go_sem])
  exact sz_ret (.refl _) ⟨by omega, by omega, fun h => by omega⟩
 have e2p := of_ndecide e2
 obtain ⟨l2, rfl, s2⟩ := p6 (by omega)
 (try simp only [go_sem])
 exact sz_ret (.refl _) ⟨by omega, by omega, fun _ => ⟨⟨c, l2⟩, by rw [en], by simp only [szTop]; omega⟩⟩
theorem szSetFunctor_w (B : Nat) (n : Int) (a1 a2 a3 a4 a5 a6 : AV) (w1 : W1 a1) (w2 : W1 a2) (w3 : W1 a3) (w4 : W2 a4) (w5 : W1 a5) (w6 : W2 a6) (left : Int) (h0 : 0 ≤ left) (h1 : left ≤ 1048576) (H0 : Heap) :
  CallH Tryz.prog B 11 [.agg [iI n, a1, a2, a3, a4, a5, a6], .int .i64 left] H0 (szK (SzQ (fun c => .agg (SF.cells c)) szSF (.agg [iI n, a1, a2, a3, a4, a5, a6]) left) H0) := by
 refine c11 (by simp) fun _ => ?_
 unfold s11
 have o1 := W1.one w1
 have o2 := W1.one w2
 have o3 := W1.one w3
 have o4 := WN.one w4
 have o5 := W1.one w5
 have o6 := WN.one w6
 (try simp only [go_sem, reduceAdd, reduceLeDiff])
 refine ⟨⟨o1, o2, o3, o4, o5, o6⟩, ?_⟩
 refine (szCategory_w B n a1 a2 a3 a4 w1 w2 w3 w4 left h0 h1 H0).mono ?_
 rintro r H ⟨rfl, u1, rfl, p1, p2, p3⟩
 (try simp only [go_sem])
 refine ⟨fun e1 => At.mk ?_, fun e1 => At.mk ?_⟩
 ·(try simp only [go_sem])
  exact sz_ret (.refl _) ⟨by omega, by omega, fun h => by omega⟩
 have e1p := of_ndecide e1
 obtain ⟨c, ec, s1⟩ := p3 (by omega)
 injection ec with ec
 simp only [Cat.cells, List.cons.injEq, and_true] at ec
 obtain ⟨en, rfl, rfl, rfl, rfl⟩ := ec
 (try simp only [go_sem, reduceAdd, reduceLeDiff])
 refine (szInt64S_w B a5 w5 u1 (by omega) (by omega) H).mono ?_
 rintro r H ⟨rfl, u2, rfl, p4, p5, p6⟩
 (try simp only [go_sem])
 refine ⟨fun e2 => At.mk ?_, fun e2 => At.mk ?_⟩
 ·(try simp only [go_sem])
  exact sz_ret (.refl _) ⟨by omega, by omega, fun h => by omega⟩
 have e2p := of_ndecide e2
 obtain ⟨l2, rfl, s2⟩ := p6 (by omega)
 (try simp only [go_sem, reduceAdd, reduceLeDiff])
 refine (szInt64SS_w B a6 w6 u2 (by omega) (by omega) H).mono ?_
 rintro r H ⟨rfl, u3, rfl, p7, p8, p9⟩
 (try simp only [go_sem])
 refine ⟨fun e3 => At.mk ?_, fun e3 => At.mk ?_⟩
 ·(try simp only [go_sem])
  exact sz_ret (.refl _) ⟨by omega, by omega, fun h => by omega⟩
 have e3p := of_ndecide e3
 obtain ⟨l3, rfl, s3⟩ := p9 (by omega)
 (try simp only [go_sem])
 exact sz_ret (.refl _) ⟨by omega, by omega, fun _ => ⟨⟨c, l2, l3⟩, by rw [en], by simp only [szSF]; omega⟩⟩
end Go.Proofs.Shf
namespace Go.Proofs.Shf
open Go.AW Go.Proofs Go.Shf
end Go.Proofs.Shf
namespace Go.Proofs.Shf
open Go.AW Go.Proofs Go.Shf
def WkV (a b : AV) : Prop := ∀ g v, VRel g a v → VRel g b v
inductive WkL : List AV → List AV → Prop
 | nil : WkL [] []
 | cons {a b : AV} {r s : List AV} (h : WkV a b) (t : WkL r s) : WkL (a :: r) (b :: s)
theorem OTop.six {p : Ob} {X : AV} {f : Top} (h : OTop p X f) : ∃ X1 X2 X3 X4 X5, X = .agg [iI f.shape.objs, X1, X2, X3, X4, X5] ∧ X1.one = true ∧ X2.one = true ∧ X3.one = true ∧ X4.one = true ∧ X5.one = true := by
 obtain ⟨X1, X2, X3, X4, X5, a1, a2, a3, a4, a5, rfl, rfl, b1, b2, b3, b4, b5⟩ := h
 exact ⟨_, _, _, _, _, rfl, b1.one, b2.one, b3.one, b4.one, b5.one⟩
theorem lent2 {α β : Type} {O : Ob → AV → α → Prop} {O' : Ob → AV → β → Prop} {f : α → AV} {f' : β → AV} {B : Nat} {H0 H : Heap} {l p p' : Ob} {X X' : AV} {a : α} {a' : β} (hO : Ow O f) (hO' : Ow O' f') (h : O p X a) (h' : O' p' X' a') (o : Owns H0 H l)
  (hp : ∀ x, x ∈ p → x ∈ l) (hp' : ∀ x, x ∈ p' → x ∈ l) : ∀ i, i < [X, X'].length → ∀ g w v, WRel g B H w → VRel g ([X, X'].getD i nv) v → VRel (g.lend H w) ([f a, f' a'].getD i nv) v := by
 intro i hi
 simp only [List.length_cons, List.length_nil] at hi
 obtain rfl | rfl : i = 0 ∨ i = 1 := by omega
 ·exact hO.arg h o hp
 ·exact hO'.arg h' o hp'
theorem lent1 {α : Type} {O : Ob → AV → α → Prop} {f : α → AV} {B : Nat} {H0 H : Heap} {l p : Ob} {X : AV} {a : α} (Y : AV) (hO : Ow O f) (h : O p X a) (o : Owns H0 H l)
  (hp : ∀ x, x ∈ p → x ∈ l) : ∀ i, i < [X, Y].length → ∀ g w v, WRel g B H w → VRel g ([X, Y].getD i nv) v → VRel (g.lend H w) ([f a, Y].getD i nv) v := by
 intro i hi
 simp only [List.length_cons, List.length_nil] at hi
 obtain rfl | rfl : i = 0 ∨ i = 1 := by omega
 ·exact hO.arg h o hp
 ·exact val_arg _
end Go.Proofs.Shf
namespace Go.Proofs.Shf
open Go.AW Go.Proofs Go.Shf
open Go.Deep
def gh0 (W : World) : Gh := ⟨fun b o => W.cell? ⟨b, o, none⟩, fun _ => none, fun _ => none⟩
theorem wrel0 (W : World) : WRel (gh0 W) W.heap.size [] W where
 fz b o v h := h
 fm b es h := by cases h
 ob i o h := by simp [Heap.get] at h
 inj i j b c c' n h := by simp [Heap.get] at h
 injm i j b n h := by simp [Heap.get] at h
 base := Nat.le_refl _
 fin := ⟨0, fun i _ => rfl⟩
section
variable {H : Type} {enc : TypeId × Value → H} {W : World}
def Rd (enc : TypeId × Value → H) (W : World) (t : TypeId) (Q : AV → Prop) : Prop :=
 ∀ fuel v d ps, DataW.trod enc Tryz.prog W 0 (fun _ => true) true fuel t [v] = some (d, ps) → (∀ n, n ∈ d.weights Tryz.prog t → n ≤ reachBytes) → ∃ a, Q a ∧ VRel (gh0 W) a v
theorem rd_int : Rd enc W 2 fun a => ∃ n, a = iI n := by
 intro fuel v d ps h _
 cases fuel with
 | zero => simp [DataW.trod] at h
 | succ fuel =>
  cases v <;> simp only [DataW.trod, Tryz.underlying2] at h <;> try (cases h; done)
  rename_i k n
  split at h
  ·rename_i hk
   obtain ⟨rfl, _⟩ := hk
   exact ⟨_, ⟨n, rfl⟩, .int _ n⟩
  ·cases h
theorem weightsAll_mem {P : Program} {e : TypeId} {l : List (DataW H)} {x : DataW H} (hx : x ∈ l) {n : Nat} (hn : n ∈ x.weights P e) : n ∈ DataW.weightsAll P e l := by
 induction l with
 | nil => simp at hx
 | cons y r ih =>
  simp only [DataW.weightsAll, List.mem_append]
  rcases List.mem_cons.mp hx with rfl | hx
  ·exact .inl hn
  ·exact .inr (ih hx)
theorem rd_slice {t e : TypeId} {Q : AV → Prop} (ht : Tryz.prog.underlying t = some (.slice e)) (hc : Tryz.prog.cellsOf e = 1) (hb : 1 ≤ Tryz.prog.bytesOf e) (hQ : ∀ a, Q a → a.cells = [a]) (h : Rd enc W e Q) : Rd enc W t (WN Q) := by
 intro fuel v d ps htr hw
 rcases open_slice1 ht hc htr with ⟨hv, hx⟩ | ⟨a, len, cap, m, n, V, D, Pl, hv, _, hl, hm, hmm, hx, hel⟩
 ·injection hv with hv
  subst hv
  exact ⟨.sl [], .inl ⟨[], rfl, by simp⟩, .slnil none 0⟩
 ·injection hv with hv
  subst hv
  simp only [if_true] at hmm
  subst hmm
  simp only [Prod.mk.injEq] at hx
  obtain ⟨rfl, rfl⟩ := hx
  have hw0 : (((List.range len).map D).length + ((List.range (m - len)).map fun j => D (len + j)).length) * Tryz.prog.bytesOf e ≤ reachBytes := hw _ (by simp [DataW.weights, ht])
  have hlen : len ≤ 140737488355328 := by
   simp only [List.length_map, List.length_range] at hw0
   have h1 : len * 1 ≤ (len + (m - len)) * Tryz.prog.bytesOf e := Nat.mul_le_mul (by omega) hb
   have h2 : reachBytes ≤ 140737488355328 := by decide
   omega
  by_cases hbig : 1099511627776 < len
  ·exact ⟨.big len, .inr ⟨len, by omega, hlen, rfl⟩, .big _ _ _ hlen⟩
  ·have hall : ∀ i, ∃ x, i < len → Q x ∧ VRel (gh0 W) x (V i) := by
    intro i
    by_cases hi : i < len
    ·obtain ⟨x, q1, q2⟩ := h n (V i) (D i) (Pl i) (hel i (by omega)).2 fun k hk => hw k (by
      simp only [DataW.weights, ht, List.mem_cons, List.mem_append]
      exact .inr (.inl (weightsAll_mem (List.mem_map.mpr ⟨i, List.mem_range.mpr hi, rfl⟩) hk)))
     exact ⟨x, fun _ => ⟨q1, q2⟩⟩
    ·exact ⟨.nilp, fun h => absurd h hi⟩
   obtain ⟨A, hA⟩ := Classical.axiomOfChoice hall
   have hget : ∀ i, i < len → ((List.range len).map A).getD i nv = A i := fun i hi => getD_map_range A nv hi
   refine ⟨.sl ((List.range len).map A), .inl ⟨_, rfl, fun x hx => ?_⟩, ?_⟩
   ·obtain ⟨i, hi, rfl⟩ := List.mem_map.mp hx
    exact (hA i (List.mem_range.mp hi)).1
   ·by_cases h0 : len = 0
    ·subst h0; exact .slnil _ _
    ·have hsp : a = ⟨a.block, a.off, none⟩ := by
      have := (hel 0 (by omega)).1
      obtain ⟨b, o, s⟩ := a
      cases s with
      | none => rfl
      | some s => exfalso; simp [Addr.add, World.cell?] at this; split at this <;> simp at this
     have hadd : ∀ i, a.add i = ⟨a.block, a.off + i, none⟩ := by
      intro i
      rw [hsp]
      unfold Addr.add
      split
      ·rename_i e; simp [e]
      ·rfl
     have key : VRel (gh0 W) (.sl ((List.range len).map A)) (.slice (some ⟨a.block, a.off, none⟩) ((List.range len).map A).length m) := by
      refine .sl _ a.block a.off 1 m V (by simp [maxL]; omega) (fun i hi => ?_) (fun i j hi hj => ?_) (fun i j hi hj => ?_)
      ·rw [hget i (by simpa using hi), hQ _ (hA i (by simpa using hi)).1]; rfl
      ·have hi' : i < len := by simpa using hi
       have := (hel i (by omega)).1
       rw [hadd] at this
       have e : i * 1 + j = i := by omega
       rw [e]; exact this
      ·have hi' : i < len := by simpa using hi
       have e : i * 1 + j = i := by omega
       obtain rfl : j = 0 := by omega
       rw [e, hget i hi', hQ _ (hA i hi').1]
       exact (hA i hi').2
     rw [List.length_map, List.length_range, ← hsp] at key
     exact key
theorem W1.of {a : AV} (h : WN (fun a => ∃ n, a = iI n) a) : W1 a := by
 rcases h with ⟨l, rfl, hl⟩ | h
 ·refine .inl ⟨l.map fun x => match x with | .int _ n => n | _ => 0, ?_⟩
  rw [iL, mL, List.map_map]
  congr 1
  have : ∀ x, x ∈ l → (iI ∘ fun x : AV => match x with | .int _ n => n | _ => (0 : Int)) x = x := fun x hx => by obtain ⟨n, rfl⟩ := hl x hx; rfl
  exact ((List.map_congr_left this).trans (by simp)).symm
 ·exact .inr h
theorem Rd.mono {t : TypeId} {Q Q' : AV → Prop} (h : Rd enc W t Q) (hq : ∀ a, Q a → Q' a) : Rd enc W t Q' := fun fuel v d ps k w => by
 obtain ⟨a, q1, q2⟩ := h fuel v d ps k w
 exact ⟨a, hq a q1, q2⟩
theorem rd_w1 : Rd enc W 22 W1 := (rd_slice Tryz.underlying22 (by kernel_rfl) (of_decide_eq_true (by kernel_rfl)) (fun a ⟨n, e⟩ => by rw [e]; rfl) rd_int).mono fun a h => W1.of h
theorem rd_w2 : Rd enc W 23 W2 := rd_slice Tryz.underlying23 (by kernel_rfl) (of_decide_eq_true (by kernel_rfl)) (fun a h => W1.cells h) rd_w1
theorem rd_w3 : Rd enc W 26 W3 := rd_slice Tryz.underlying26 (by kernel_rfl) (of_decide_eq_true (by kernel_rfl)) (fun a h => WN.cells h) rd_w2
theorem rd_struct {t : TypeId} {fs : Array Field} (ht : Tryz.prog.underlying t = some (.struct fs)) {fuel : Nat} {cs : List Value} {d : DataW H} {ps : List MemPlace}
  (h : DataW.trod enc Tryz.prog W 0 (fun _ => true) true fuel t cs = some (d, ps)) (hw : ∀ n, n ∈ d.weights Tryz.prog t → n ≤ reachBytes) (j : Nat) (f : Field) (hf : fs.toList[j]? = some f) :
  ∃ fuel' d' ps', DataW.trod enc Tryz.prog W 0 (fun _ => true) true fuel' f.type ((cs.drop f.offset).take (Tryz.prog.cellsOf f.type)) = some (d', ps') ∧ ∀ n, n ∈ d'.weights Tryz.prog f.type → n ≤ reachBytes := by
 cases fuel with
 | zero => simp [DataW.trod] at h
 | succ fuel =>
  simp only [DataW.trod, ht] at h
  split at h
  ·rw [Option.map_eq_some_iff] at h
   obtain ⟨xs, hxs, e⟩ := h
   simp only [Prod.mk.injEq] at e
   obtain ⟨rfl, rfl⟩ := e
   have h1 := mapM_some_get hxs j f hf
   have hlen := mapM_some_length hxs
   have hj : j < xs.length := by
    have := (List.getElem?_eq_some_iff.mp hf).1
    omega
   rw [List.getElem?_eq_getElem hj] at h1
   refine ⟨fuel, xs[j].1, xs[j].2, h1, fun n hn => hw n ?_⟩
   simp only [DataW.weights, ht]
   exact DataW.weights_mem_each (j := j) (t := f.type) (d := xs[j].1) (by simp [hf]) (by simp [hj]) n hn
  ·cases h
theorem rd_cat {fuel : Nat} {c0 c1 c2 c3 c4 : Value} {d : DataW H} {ps : List MemPlace} (h : DataW.trod enc Tryz.prog W 0 (fun _ => true) true fuel 25 [c0, c1, c2, c3, c4] = some (d, ps)) (hw : ∀ n, n ∈ d.weights Tryz.prog 25 → n ≤ reachBytes) :
  ∃ n a1 a2 a3 a4, VRel (gh0 W) (iI n) c0 ∧ (W1 a1 ∧ VRel (gh0 W) a1 c1) ∧ (W1 a2 ∧ VRel (gh0 W) a2 c2) ∧ (W1 a3 ∧ VRel (gh0 W) a3 c3) ∧ (W2 a4 ∧ VRel (gh0 W) a4 c4) := by
 have k2 : Tryz.prog.cellsOf 2 = 1 := by kernel_rfl
 have k22 : Tryz.prog.cellsOf 22 = 1 := by kernel_rfl
 have k23 : Tryz.prog.cellsOf 23 = 1 := by kernel_rfl
 obtain ⟨_, _, _, q0, u0⟩ := rd_struct Tryz.underlying25 h hw 0 _ rfl
 obtain ⟨_, _, _, q1, u1⟩ := rd_struct Tryz.underlying25 h hw 1 _ rfl
 obtain ⟨_, _, _, q2, u2⟩ := rd_struct Tryz.underlying25 h hw 2 _ rfl
 obtain ⟨_, _, _, q3, u3⟩ := rd_struct Tryz.underlying25 h hw 3 _ rfl
 obtain ⟨_, _, _, q4, u4⟩ := rd_struct Tryz.underlying25 h hw 4 _ rfl
 simp only [k2, k22, k23, List.drop_zero, List.drop_succ_cons, List.take_succ_cons, List.take_zero] at q0 q1 q2 q3 q4
 obtain ⟨_, ⟨n, rfl⟩, r0⟩ := rd_int _ _ _ _ q0 u0
 obtain ⟨a1, w1, r1⟩ := rd_w1 _ _ _ _ q1 u1
 obtain ⟨a2, w2, r2⟩ := rd_w1 _ _ _ _ q2 u2
 obtain ⟨a3, w3, r3⟩ := rd_w1 _ _ _ _ q3 u3
 obtain ⟨a4, w4, r4⟩ := rd_w2 _ _ _ _ q4 u4
 exact ⟨n, a1, a2, a3, a4, r0, ⟨w1, r1⟩, ⟨w2, r2⟩, ⟨w3, r3⟩, ⟨w4, r4⟩⟩
theorem agg_rel {g : Gh} {al : List AV} {vs : List Value} (hl : vs.length = al.length) (h : ∀ i, i < al.length → VRel g (al.getD i nv) (vs.getD i undef)) : VRel g (.agg al) (.agg vs.toArray) :=
 .agg al vs.toArray (by simpa using hl) fun i hi => by
  have := h i hi
  simpa [Array.getD, List.getD_eq_getElem?_getD, show i < vs.length by omega] using this
theorem rd_top {fuel : Nat} {c0 c1 c2 c3 c4 c5 : Value} {d : DataW H} {ps : List MemPlace} (h : DataW.trod enc Tryz.prog W 0 (fun _ => true) true fuel 28 [c0, c1, c2, c3, c4, c5] = some (d, ps)) (hw : ∀ n, n ∈ d.weights Tryz.prog 28 → n ≤ reachBytes) :
  ∃ n a1 a2 a3 a4 a5, W1 a1 ∧ W1 a2 ∧ W1 a3 ∧ W2 a4 ∧ W3 a5 ∧ VRel (gh0 W) (.agg [iI n, a1, a2, a3, a4, a5]) (.agg #[c0, c1, c2, c3, c4, c5]) := by
 have k25 : Tryz.prog.cellsOf 25 = 5 := by kernel_rfl
 have k26 : Tryz.prog.cellsOf 26 = 1 := by kernel_rfl
 obtain ⟨_, _, _, q0, u0⟩ := rd_struct Tryz.underlying28 h hw 0 _ rfl
 obtain ⟨_, _, _, q1, u1⟩ := rd_struct Tryz.underlying28 h hw 1 _ rfl
 simp only [k25, k26, List.drop_zero, List.drop_succ_cons, List.take_succ_cons, List.take_zero] at q0 q1
 obtain ⟨n, a1, a2, a3, a4, r0, ⟨w1, r1⟩, ⟨w2, r2⟩, ⟨w3, r3⟩, ⟨w4, r4⟩⟩ := rd_cat q0 u0
 obtain ⟨a5, w5, r5⟩ := rd_w3 _ _ _ _ q1 u1
 refine ⟨n, a1, a2, a3, a4, a5, w1, w2, w3, w4, w5, ?_⟩
 refine agg_rel (vs := [c0, c1, c2, c3, c4, c5]) rfl fun i hi => ?_
 simp only [List.length_cons, List.length_nil] at hi
 obtain rfl | rfl | rfl | rfl | rfl | rfl : i = 0 ∨ i = 1 ∨ i = 2 ∨ i = 3 ∨ i = 4 ∨ i = 5 := by omega
 all_goals assumption
theorem rd_sf {fuel : Nat} {c0 c1 c2 c3 c4 c5 c6 : Value} {d : DataW H} {ps : List MemPlace} (h : DataW.trod enc Tryz.prog W 0 (fun _ => true) true fuel 30 [c0, c1, c2, c3, c4, c5, c6] = some (d, ps)) (hw : ∀ n, n ∈ d.weights Tryz.prog 30 → n ≤ reachBytes) :
  ∃ n a1 a2 a3 a4 a5 a6, W1 a1 ∧ W1 a2 ∧ W1 a3 ∧ W2 a4 ∧ W1 a5 ∧ W2 a6 ∧ VRel (gh0 W) (.agg [iI n, a1, a2, a3, a4, a5, a6]) (.agg #[c0, c1, c2, c3, c4, c5, c6]) := by
 have k25 : Tryz.prog.cellsOf 25 = 5 := by kernel_rfl
 have k22 : Tryz.prog.cellsOf 22 = 1 := by kernel_rfl
 have k23 : Tryz.prog.cellsOf 23 = 1 := by kernel_rfl
 obtain ⟨_, _, _, q0, u0⟩ := rd_struct Tryz.underlying30 h hw 0 _ rfl
 obtain ⟨_, _, _, q1, u1⟩ := rd_struct Tryz.underlying30 h hw 1 _ rfl
 obtain ⟨_, _, _, q2, u2⟩ := rd_struct Tryz.underlying30 h hw 2 _ rfl
 simp only [k25, k22, k23, List.drop_zero, List.drop_succ_cons, List.take_succ_cons, List.take_zero] at q0 q1 q2
 obtain ⟨n, a1, a2, a3, a4, r0, ⟨w1, r1⟩, ⟨w2, r2⟩, ⟨w3, r3⟩, ⟨w4, r4⟩⟩ := rd_cat q0 u0
 obtain ⟨a5, w5, r5⟩ := rd_w1 _ _ _ _ q1 u1
 obtain ⟨a6, w6, r6⟩ := rd_w2 _ _ _ _ q2 u2
 refine ⟨n, a1, a2, a3, a4, a5, a6, w1, w2, w3, w4, w5, w6, ?_⟩
 refine agg_rel (vs := [c0, c1, c2, c3, c4, c5, c6]) rfl fun i hi => ?_
 simp only [List.length_cons, List.length_nil] at hi
 obtain rfl | rfl | rfl | rfl | rfl | rfl | rfl : i = 0 ∨ i = 1 ∨ i = 2 ∨ i = 3 ∨ i = 4 ∨ i = 5 ∨ i = 6 := by omega
 all_goals assumption
end
end Go.Proofs.Shf
namespace Go.Proofs.Shf
open Go.AW Go.Proofs Go.Shf
theorem law3_ok (B : Nat) (n m : Int) (a1 a2 a3 a4 a5 b1 b2 b3 b4 b5 b6 : AV) (w1 : W1 a1) (w2 : W1 a2) (w3 : W1 a3) (w4 : W2 a4) (w5 : W3 a5) (v1 : W1 b1) (v2 : W1 b2) (v3 : W1 b3) (v4 : W2 b4) (v5 : W1 b5) (v6 : W2 b6) (H0 : Heap) :
  CallH Tryz.prog B 3 [.agg [iI n, a1, a2, a3, a4, a5], .agg [iI m, b1, b2, b3, b4, b5, b6]] H0 fun r H' => r = .bool true := by
 refine c3p (by simp) fun _ => ?_
 unfold s3p
 have o1 := W1.one w1
 have o2 := W1.one w2
 have o3 := W1.one w3
 have o4 := WN.one w4
 have o5 := WN.one w5
 have u1 := W1.one v1
 have u2 := W1.one v2
 have u3 := W1.one v3
 have u4 := WN.one v4
 have u5 := W1.one v5
 have u6 := WN.one v6
 (try simp only [go_sem, reduceAdd])
 refine ⟨⟨o1, o2, o3, o4, o5⟩, ⟨u1, u2, u3, u4, u5, u6⟩, ?_⟩
 refine (szTopology_w B n a1 a2 a3 a4 a5 w1 w2 w3 w4 w5 1048576 (by omega) (by omega) H0).mono ?_
 rintro r H ⟨rfl, left, rfl, p1, p2, p3⟩
 (try simp only [go_sem])
 refine ⟨fun e1 => At.mk ?_, fun e1 => At.mk ?_⟩
 ·(try simp only [go_sem])
  exact ⟨H, .refl H, rfl⟩
 have e1p := of_ndecide e1
 obtain ⟨j, ej, sj⟩ := p3 (by omega)
 (try simp only [go_sem, reduceAdd])
 refine (szSetFunctor_w B m b1 b2 b3 b4 b5 b6 v1 v2 v3 v4 v5 v6 left (by omega) (by omega) H).mono ?_
 rintro r H ⟨rfl, left2, rfl, p4, p5, p6⟩
 (try simp only [go_sem])
 refine ⟨fun e2 => At.mk ?_, fun e2 => At.mk ?_⟩
 ·(try simp only [go_sem])
  exact ⟨H, .refl H, rfl⟩
 have e2p := of_ndecide e2
 obtain ⟨f, ef, sf⟩ := p6 (by omega)
 injection ej with ej
 injection ef with ef
 simp only [Top.cells, List.cons.injEq, and_true, AV.int.injEq, true_and] at ej
 simp only [SF.cells, List.cons.injEq, and_true, AV.int.injEq, true_and] at ef
 obtain ⟨rfl, rfl, rfl, rfl, rfl, rfl⟩ := ej
 obtain ⟨rfl, rfl, rfl, rfl, rfl, rfl, rfl⟩ := ef
 have hT := toTopology_ok B j
 have hTn := toTopology_new B j
 have hS := toSetFunctor_ok B f
 have hSn := toSetFunctor_new B f
 have eT := eqTopology_ok B j j
 have eS := eqSetFunctor_ok B f f
 rw [dec_t rfl] at eT eS
 have hsp := IsSheaf_ok B j f
 have him := implIsSheaf_ok B j f
 clear p3 p6 p1 p2 p4 p5 sj sf o1 o2 o3 o4 o5 u1 u2 u3 u4 u5 u6 w1 w2 w3 w4 w5 v1 v2 v3 v4 v5 v6 e1 e2 e1p e2p
 generalize dec (ShB j f) = res at *
 generalize codeF j f = code at *
 (try simp only [go_sem, reduceAdd])
 refine ⟨_, hT.run, ?_⟩
 (try simp only [go_sem])
 refine ⟨_, hS.run, ?_⟩
 (try simp only [go_sem])
 refine ⟨_, hsp.run, ?_⟩
 (try simp only [go_sem, reduceAdd, reduceLT])
 refine hTn.call (.nil _) fun Y8 p8 H q8 o => ?_
 obtain ⟨x1, x2, x3, x4, x5, rfl, y1, y2, y3, y4, y5⟩ := OTop.six q8
 (try simp only [go_sem, reduceAdd])
 refine ⟨by simp [maxL], newRef_own o fun id8 H o => ?_⟩
 (try simp only [go_sem])
 refine st_cells o (by simp) (by (try simp only [go_sem]); (try simp)) (by simp only [memcons, memnil]; exact ⟨rfl, y1, y2, y3, y4, y5, trivial⟩) fun H o => ?_
 simp only [wr_cons, wr_nil, List.set_cons_zero, List.set_cons_succ] at o
 (try simp only [go_sem, reduceAdd])
 refine hSn.call o fun Y9 p9 H q9 o => ?_
 obtain ⟨z1, z2, z3, z4, z5, z6, rfl, t1, t2, t3, t4, t5, t6⟩ := OSF.seven q9
 (try simp only [go_sem, reduceAdd])
 refine ⟨by simp [maxL], newRef_own o fun id9 H o => ?_⟩
 (try simp only [go_sem])
 refine st_cells o (by simp) (by (try simp only [go_sem]); (try simp)) (by simp only [memcons, memnil]; exact ⟨rfl, t1, t2, t3, t4, t5, t6, trivial⟩) fun H o => ?_
 simp only [wr_cons, wr_nil, List.set_cons_zero, List.set_cons_succ] at o
 (try simp only [go_sem])
 refine rd_getn (o.get (id8, _) (by repeat (first | exact List.mem_cons_self | refine List.mem_cons_of_mem _ ?_ | refine List.mem_append_right _ ?_))) (by simp) ?_
 (try simp only [go_sem])
 refine rd_getn (o.get (id9, _) (by repeat (first | exact List.mem_cons_self | refine List.mem_cons_of_mem _ ?_ | refine List.mem_append_right _ ?_))) (by simp) ?_
 (try simp only [go_sem])
 refine CallH.lentPure (es := [.agg j.cells, .agg f.cells]) (.tup fun c hc => by simp only [List.mem_cons, List.not_mem_nil, or_false] at hc; rcases hc with rfl | rfl; exact .bool _; exact .int _ _) rfl (lent2 (f := fun c : Top => AV.agg c.cells) (f' := fun c : SF => AV.agg c.cells) (a := j) (a' := f) owTop owSF q8 q9 o (fun x hx => by simp [hx]) (fun x hx => by simp [hx])) him.run ?_
 have hb : (true ^^ (res == res)) = false := by simp
 (try simp only [go_sem, reduceAdd, reduceLT, hb])
 refine ⟨fun e => (by simp at e), fun _ => At.mk ?_⟩
 (try simp only [go_sem])
 refine rd_getn (o.get (id8, _) (by repeat (first | exact List.mem_cons_self | refine List.mem_cons_of_mem _ ?_ | refine List.mem_append_right _ ?_))) (by simp) ?_
 (try simp only [go_sem, reduceAdd])
 refine ⟨_, hT.run, ?_⟩
 (try simp only [go_sem])
 refine CallH.lentPure (es := [.agg j.cells, .agg j.cells]) (.bool _) rfl (lent1 (f := fun c : Top => AV.agg c.cells) (a := j) _ owTop q8 o (fun x hx => by simp [hx])) eT.run ?_
 (try simp only [go_sem])
 refine rd_getn (o.get (id9, _) (by repeat (first | exact List.mem_cons_self | refine List.mem_cons_of_mem _ ?_ | refine List.mem_append_right _ ?_))) (by simp) ?_
 (try simp only [go_sem, reduceAdd])
 refine ⟨_, hS.run, ?_⟩
 (try simp only [go_sem])
 refine CallH.lentPure (es := [.agg f.cells, .agg f.cells]) (.bool _) rfl (lent1 (f := fun c : SF => AV.agg c.cells) (a := f) _ owSF q9 o (fun x hx => by simp [hx])) eS.run ?_
 (try simp only [go_sem])
 exact ⟨H, .refl H, rfl⟩
end Go.Proofs.Shf
