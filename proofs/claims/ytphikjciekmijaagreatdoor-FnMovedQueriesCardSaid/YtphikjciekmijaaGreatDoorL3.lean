/- Whatever the bytes, the law FnMovedQueries returns true, and its input reads as it did, where the three tables of the library are as the program's text lays them (the card ties them to the text). -/
import Derived.Test.YtphikjciekmijaaGreatDoorRows
import Derived.Test.YtphikjciekmijaaGreatDoorF13
import Derived.WalkKit
import Derived.ProofKit
import Derived.OpenShut
import Derived.ChangeVars
import Derived.LaidLaws
import Derived.LaidHandle
import Derived.SevenTiedAt
import Derived.Test.YtphikjciekmijaaGreatDoorTie
import Derived.Test.YtphikjciekmijaaGreatDoorCards
set_option linter.unusedSimpArgs false
set_option linter.unusedVariables false
namespace Go.Proofs.YtphikjciekmijaaGreatDoor
open Go.ChangeShapes Go.WideShapes Go.ChangeAt Go.RowKit
theorem law_calls (W : World) (v0 : Value) (a : Go.AW.AV) (ha : Go.AW.WB a) (h0 : Go.AW.VRel (Shf.gh0 W) a v0) :
    Calls Tryz.prog 3 #[v0] W fun e w' => e = .returned (.bool true) ∧ Below W.heap.size W w' := by
  refine (((Shf.fnMovedQueries_all (2 * W.heap.size + 1) (by omega) a ha).run []).2 (Shf.gh0 W) W #[v0] (Shf.wrel0 W) ⟨rfl, fun i hi => ?_⟩).mono ?_
  · simp only [List.length_cons, List.length_nil] at hi
    obtain rfl : i = 0 := by omega
    exact h0
  · rintro e w' ⟨v, rfl, g', r, H', _, ⟨hr, _⟩, hv, _, hb⟩
    subst hr
    cases hv
    exact ⟨rfl, hb.os, hb.tape, hb.output, hb.size, fun k hk => hb.block k (by omega)⟩
theorem own : ownKnob Tryz.prog.godebug = none := by kernel_rfl
theorem laidOut : laidOutB Tryz.prog = true := by kernel_rfl
/-- The cells of a laid table. -/
def cellsOf : DataW Unit → Array Value
  | .agg l => (l.map fun | .lit (.int k n) => Value.int k n | _ => .int .u8 0).toArray
  | _ => #[]
/-- A world that meets the condition: the settled one, the three tables laid. -/
noncomputable def laidWorld (os : Os) : World :=
  let w0 := World.holding Tryz.prog os ⟨#[], #[], []⟩
  { w0 with heap := ((w0.heap.modify 0 fun
      | .cells _ t frozen => .cells (cellsOf Rows.laid_internal_strconv_uint64pow10) t frozen
      | o => o).modify 2 fun
      | .cells _ t frozen => .cells (cellsOf Rows.laid_math_bits_deBruijn32tab) t frozen
      | o => o).modify 3 fun
      | .cells _ t frozen => .cells (cellsOf Rows.laid_math_bits_deBruijn64tab) t frozen
      | o => o }
theorem laid_met (os : Os) (args : Array Value) : laidMetH Tryz.prog Rows.fnMovedQueriesRow.laid ((laidWorld os).forCall (fun _ _ => 0) ⟨#[], args, []⟩).memory :=
  (laidMet_of_run' 8 (by kernel_rfl) (by kernel_rfl) : laidMet Tryz.prog Rows.fnMovedQueriesRow.laid _)
set_option maxRecDepth 100000 in
theorem lifted (os : Os) (started : os.Started) (H : Type) (enc : TypeId × Value → H) :
    ReturnsInHanded {} Tryz.checked os 3 .any (fun w args => (Rows.fnMovedQueriesSpec.pre enc Tryz.prog Tryz.f3 Rows.fnMovedQueriesRow.domain false w args ∧ laidMetH Tryz.prog Rows.fnMovedQueriesRow.laid w) ∧ sizedMet enc Tryz.prog Tryz.f3 (OpenSpec.ofChange Rows.fnMovedQueriesSpec) false w args) (Rows.fnMovedQueriesSpec.post enc Tryz.prog Tryz.f3 false true false false) := by
  refine returnsInHanded_of_change_and (C := Tryz.checked) (X := fun w _ => laidMetH Tryz.prog Rows.fnMovedQueriesRow.laid w) (fun _ _ _ hh h => h.of_heap hh) own started (by kernel_rfl) Tryz.func3
    (ChangeSpec.witness_at (enc := enc) (C := Tryz.checked) (os := os) (X := fun w _ => laidMetH Tryz.prog Rows.fnMovedQueriesRow.laid w) false (laidWorld os) #[.slice none 0 0] 8 rfl (by kernel_rfl) (by kernel_rfl) (by kernel_rfl) (by kernel_rfl) (by kernel_rfl) (laid_met os _)) ?_
  intro W base args ds gs before hval0 hW hcnd hsz _ _
  have hval : ∀ (j : Nat) t v, Tryz.f3.params[j]? = some t → args[j]? = some v → Value.okWide Tryz.prog W .any base t v := hval0
  have hsz : (DataW.weightsEach Tryz.prog (Tryz.f3.params.toList ++ Rows.fnMovedQueriesSpec.plain.varTypes Tryz.prog) (ds ++ gs)).all (· ≤ reachBytes) = true := hsz
  have hW' := hW
  obtain ⟨p, q, hA0, hV, rfl, hfz, hnd⟩ := hW
  have hA : DataW.TrodAll enc Tryz.prog W 0 (fun _ => true) true Tryz.f3.params.toList args.toList ds p := hA0
  rw [Tryz.params3] at hA hval hsz
  obtain ⟨v0, d0, rfl, rfl, h0⟩ := trodAll_one hA
  obtain ⟨rfl, rfl⟩ := trodVars_none hV
  have hw0 : ∀ n, n ∈ d0.weights Tryz.prog 22 → n ≤ reachBytes := fun n hn => by
    have := List.all_eq_true.1 hsz n (by simp only [List.append_nil, DataW.weightsEach, List.mem_append, List.cons_append]; exact .inl hn)
    simpa using this
  have h0' := h0
  obtain ⟨fuel0, h0⟩ := h0
  have hv1 : v0.cells.toList = [v0] := by
    have := hval 0 22 v0 rfl rfl
    simp only [Value.okWide, Tryz.underlying22] at this
    cases v0 <;> first | rfl | (exfalso; simp [Cell.okWide, Cell.ok, Tryz.underlying22] at this)
  rw [hv1] at h0
  clear hval
  obtain ⟨a, ha, r0⟩ := Shf.rd_bytes fuel0 v0 d0 _ h0 hw0
  clear hA0 hval0
  simp only [List.append_nil] at hW'
  refine (law_calls W _ a ha r0).mono fun e W' ⟨he, bel⟩ => ?_
  subst he
  have hlt0 : ∀ x ∈ p, x.block < W.heap.size := fun x hx => by simpa using hW'.lt x (by simp [hx])
  refine ⟨_, rfl, _, _, _, [], p, [], hW', trodAll_mk1 (shut_bool Tryz.underlying4 true), ?_, rfl, bel.frame _, fun h => by cases h⟩
  exact trodAll_mk1 (Below.trod laidOut (by kernel_rfl) (of_decide_eq_true (by kernel_rfl)) h0' bel hlt0)
set_option maxHeartbeats 8000000 in
theorem closed1 : joinedFacts Tryz.prog 3 Tryz.f3 Rows.fnMovedQueriesSpec Rows.fnMovedQueriesRow = true := by
  simp only [joinedFacts, Bool.and_eq_true]
  repeat' apply And.intro
  all_goals as_aux_lemma => kernel_rfl
theorem wrap1 : Tryz.f3.isWrapper Tryz.prog Rows.fnMovedQueriesRow.wrapper Rows.fnMovedQueriesRow.mainSum := by
  unfold Func.isWrapper; first | (rw [if_pos (by decide +kernel)]; kernel_rfl) | (rw [if_neg (by decide +kernel)]; exact ⟨rfl, rfl⟩)
theorem named1 : Tryz.pinned.checked.prog.funcNamed Rows.fnMovedQueriesRow.func = some 3 := by kernel_rfl
theorem inst1 : Tryz.f3.isInstance Tryz.pinned.checked.prog Rows.fnMovedQueriesRow.origin Rows.fnMovedQueriesRow.targs := of_decide_eq_true (by kernel_rfl)
theorem over : Rows.fnMovedQueriesRow.holds Tryz.pinned (OpenSpec.ofChange Rows.fnMovedQueriesSpec) :=
  OpenClaim.holds_of_wide 3 Tryz.f3 rfl rfl rfl rfl rfl rfl rfl ⟨rfl, rfl, rfl, rfl, rfl⟩ rfl rfl rfl rfl rfl named1 Tryz.func3 closed1 inst1 wrap1
    (fun os started H enc _ => lifted os started H enc)
theorem fnMovedQueries_holds : Rows.FnMovedQueriesCardSaid :=
  Claim7.holds_tied_plain_at .later [] [.data, .data, .data] true (true, "08d0ffe21202eee885f30a1e9f1d6a592faf22f23a6916295f7c98a339fabd4a") false
    over (fun _ h => by cases h) (by kernel_rfl) (fun _ h => by cases h) fnMovedQueries_row_tie rfl ⟨rfl, rfl⟩ (by kernel_rfl) rfl
    (fun f fn hf hfn => by
      obtain rfl : f = 3 := Option.some.inj (named1.symm.trans hf) |>.symm
      obtain rfl : fn = Tryz.f3 := (Option.some.inj (Tryz.func3.symm.trans hfn)).symm
      exact ⟨by kernel_rfl, fun j t ht => by
        rw [Tryz.params3] at ht
        have h3 : t = 22 := by
          rcases j with _ | j
          · simpa using ht.symm
          · simp at ht
        subst h3
        exact (show Tryz.prog.wantsStandIn 22 = false by kernel_rfl)⟩)
    (by kernel_rfl)
#print axioms fnMovedQueries_holds
end Go.Proofs.YtphikjciekmijaaGreatDoor
