/- Whatever the bytes, the law FnPrecomposition returns true, and its input reads as it did: no condition beyond the form's own reach. -/
import Derived.Test.YtnpimpkmgmnhhaaGreatRows
import Derived.Test.YtnpimpkmgmnhhaaGreatF15
import Derived.WalkKit
import Derived.ProofKit
import Derived.OpenShut
set_option linter.unusedSimpArgs false
set_option linter.unusedVariables false
namespace Go.Proofs.YtnpimpkmgmnhhaaGreat
open Go.ChangeShapes Go.WideShapes Go.ChangeAt Go.RowKit
theorem law_calls (W : World) (v0 : Value) (a : Go.AW.AV) (ha : Go.AW.WB a) (h0 : Go.AW.VRel (Shf.gh0 W) a v0) :
    Calls Tryz.prog 5 #[v0] W fun e w' => e = .returned (.bool true) ∧ Below W.heap.size W w' := by
  refine (((Shf.fnPre_all W.heap.size a ha).run []).2 (Shf.gh0 W) W #[v0] (Shf.wrel0 W) ⟨rfl, fun i hi => ?_⟩).mono ?_
  · simp only [List.length_cons, List.length_nil] at hi
    obtain rfl : i = 0 := by omega
    exact h0
  · rintro e w' ⟨v, rfl, g', r, H', _, ⟨hr, _⟩, hv, _, hb⟩
    subst hr
    cases hv
    exact ⟨rfl, hb.os, hb.tape, hb.output, hb.size, hb.block⟩
theorem own : ownKnob Tryz.prog.godebug = none := by kernel_rfl
theorem laidOut : laidOutB Tryz.prog = true := by kernel_rfl
set_option maxRecDepth 100000 in
theorem lifted (os : Os) (started : os.Started) (H : Type) (enc : TypeId × Value → H) :
    ReturnsInHanded {} Tryz.checked os 5 .any (Rows.fnPrecompositionSpec.pre6 enc Tryz.prog Tryz.f5 Rows.fnPrecompositionRow.domain false) (Rows.fnPrecompositionSpec.post enc Tryz.prog Tryz.f5 false true false false) := by
  refine returnsInHanded_of_change_sized (C := Tryz.checked) own started (by kernel_rfl) Tryz.func5
    (ChangeSpec.witness6 (enc := enc) (C := Tryz.checked) false ⟨#[], #[.slice none 0 0], []⟩ 5 (by kernel_rfl) (by kernel_rfl) (by kernel_rfl) (by kernel_rfl)) ?_
  intro W base args ds gs before hval0 hW hcnd hsz _
  have hval : ∀ (j : Nat) t v, Tryz.f5.params[j]? = some t → args[j]? = some v → Value.okWide Tryz.prog W .any base t v := hval0
  have hsz : (DataW.weightsEach Tryz.prog (Tryz.f5.params.toList ++ Rows.fnPrecompositionSpec.plain.varTypes Tryz.prog) (ds ++ gs)).all (· ≤ reachBytes) = true := hsz
  have hW' := hW
  obtain ⟨p, q, hA0, hV, rfl, hfz, hnd⟩ := hW
  have hA : DataW.TrodAll enc Tryz.prog W 0 (fun _ => true) true Tryz.f5.params.toList args.toList ds p := hA0
  rw [Tryz.params5] at hA hval hsz
  obtain ⟨v0, d0, rfl, rfl, h0⟩ := trodAll_one hA
  obtain ⟨rfl, rfl⟩ := trodVars_none hV
  have hw0 : ∀ n, n ∈ d0.weights Tryz.prog 22 → n ≤ reachBytes := fun n hn => by
    have := List.all_eq_true.1 hsz n (by simp only [List.append_nil, DataW.weightsEach, List.mem_append, List.cons_append]; exact .inl hn)
    simpa using this
  have h0' := h0
  obtain ⟨fuel0, h0⟩ := h0
  have hv1 : v0.cells.toList = [v0] := by
    have := hval 0 22 v0 rfl rfl
    simp only [Value.okWide, Tryz.underlying22] at this
    cases v0 <;> first | rfl | (exfalso; simp [Cell.okWide, Cell.ok, Tryz.underlying22] at this)
  rw [hv1] at h0
  clear hval
  obtain ⟨a, ha, r0⟩ := Shf.rd_bytes fuel0 v0 d0 _ h0 hw0
  clear hA0 hval0
  simp only [List.append_nil] at hW'
  refine (law_calls W _ a ha r0).mono fun e W' ⟨he, bel⟩ => ?_
  subst he
  have hlt0 : ∀ x ∈ p, x.block < W.heap.size := fun x hx => by simpa using hW'.lt x (by simp [hx])
  refine ⟨_, rfl, _, _, _, [], p, [], hW', trodAll_mk1 (shut_bool Tryz.underlying4 true), ?_, rfl, bel.frame _, fun h => by cases h⟩
  exact trodAll_mk1 (Below.trod laidOut (by kernel_rfl) (of_decide_eq_true (by kernel_rfl)) h0' bel hlt0)
set_option maxHeartbeats 8000000 in
theorem closed1 : joinedFacts Tryz.prog 5 Tryz.f5 Rows.fnPrecompositionSpec Rows.fnPrecompositionRow = true := by
  simp only [joinedFacts, Bool.and_eq_true]
  repeat' apply And.intro
  all_goals as_aux_lemma => kernel_rfl
theorem wrap1 : Tryz.f5.isWrapper Tryz.prog Rows.fnPrecompositionRow.wrapper Rows.fnPrecompositionRow.mainSum := by
  unfold Func.isWrapper; first | (rw [if_pos (by decide +kernel)]; kernel_rfl) | (rw [if_neg (by decide +kernel)]; exact ⟨rfl, rfl⟩)
theorem named1 : Tryz.pinned.checked.prog.funcNamed Rows.fnPrecompositionRow.func = some 5 := by kernel_rfl
theorem inst1 : Tryz.f5.isInstance Tryz.pinned.checked.prog Rows.fnPrecompositionRow.origin Rows.fnPrecompositionRow.targs := of_decide_eq_true (by kernel_rfl)
theorem over : Rows.fnPrecompositionRow.holds Tryz.pinned (OpenSpec.ofChange Rows.fnPrecompositionSpec) :=
  OpenClaim.holds_of_wide 5 Tryz.f5 rfl rfl rfl rfl rfl rfl rfl ⟨rfl, rfl, rfl, rfl, rfl⟩ rfl rfl rfl rfl rfl named1 Tryz.func5 closed1 inst1 wrap1
    (fun os started H enc _ => lifted os started H enc)
theorem fnPrecomposition_holds : Rows.FnPrecompositionSaid := over
#print axioms fnPrecomposition_holds
end Go.Proofs.YtnpimpkmgmnhhaaGreat
