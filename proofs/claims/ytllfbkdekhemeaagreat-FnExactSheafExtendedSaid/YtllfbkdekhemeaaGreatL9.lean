/- For every topology and every map of set functors that the form admits, the law FnExactSheafExtended returns true, and both arguments read afterwards as they read before. Conditions: only those of the given row (it may recurse; memory may be shared among the arguments). -/
import Derived.Test.YtllfbkdekhemeaaGreatRows
import Derived.Test.YtllfbkdekhemeaaGreatG
import Derived.WalkKit
import Derived.ProofKit
import Derived.OpenShut
set_option linter.unusedSimpArgs false
set_option linter.unusedVariables false
set_option linter.unusedSectionVars false
namespace Go.Proofs.YtllfbkdekhemeaaGreat
open Go.ChangeShapes Go.WideShapes Go.ChangeAt Go.RowKit
theorem law_calls (W : World) (v0 v1 : Value) (n m m2 : Int) (a1 a2 a3 a4 a5 b1 b2 b3 b4 b5 b6 c1 c2 c3 c4 c5 c6 d : Go.AW.AV) (w1 : Go.AW.W1 a1) (w2 : Go.AW.W1 a2) (w3 : Go.AW.W1 a3) (w4 : Go.AW.W2 a4) (w5 : Go.AW.W3 a5)
  (u1 : Go.AW.W1 b1) (u2 : Go.AW.W1 b2) (u3 : Go.AW.W1 b3) (u4 : Go.AW.W2 b4) (u5 : Go.AW.W1 b5) (u6 : Go.AW.W2 b6) (y1 : Go.AW.W1 c1) (y2 : Go.AW.W1 c2) (y3 : Go.AW.W1 c3) (y4 : Go.AW.W2 c4) (y5 : Go.AW.W1 c5) (y6 : Go.AW.W2 c6) (yd : Go.AW.W2 d)
  (h0 : Go.AW.VRel (Shf.gh0 W) (.agg [Go.AW.iI n, a1, a2, a3, a4, a5]) v0) (h1 : Go.AW.VRel (Shf.gh0 W) (.agg [Go.AW.iI m, b1, b2, b3, b4, b5, b6, Go.AW.iI m2, c1, c2, c3, c4, c5, c6, d]) v1) :
  Calls Tryz.prog 9 #[v0, v1] W fun e w' => e = .returned (.bool true) ∧ Below W.heap.size W w' := by
 refine ((Shf.law9_ok W.heap.size n m m2 a1 a2 a3 a4 a5 b1 b2 b3 b4 b5 b6 c1 c2 c3 c4 c5 c6 d w1 w2 w3 w4 w5 u1 u2 u3 u4 u5 u6 y1 y2 y3 y4 y5 y6 yd []).2 (Shf.gh0 W) W #[v0, v1] (Shf.wrel0 W) ⟨rfl, fun i hi => ?_⟩).mono ?_
 ·simp only [List.length_cons, List.length_nil] at hi
  obtain rfl | rfl : i = 0 ∨ i = 1 := by omega
  ·exact h0
  ·exact h1
 ·rintro e w' ⟨v, rfl, g', r, H', _, hr, hv, _, hb⟩
  subst hr
  cases hv
  exact ⟨rfl, hb.os, hb.tape, hb.output, hb.size, hb.block⟩
theorem six (cs : Array Value) (h : cs.size = 6) : ∃ c0 c1 c2 c3 c4 c5, Value.agg cs = .agg #[c0, c1, c2, c3, c4, c5] := by
 obtain ⟨l⟩ := cs
 match l, h with
 | [a, b, c, d, e, f], _ => exact ⟨_, _, _, _, _, _, rfl⟩
theorem fifteen (cs : Array Value) (h : cs.size = 15) : ∃ c0 c1 c2 c3 c4 c5 c6 d0 d1 d2 d3 d4 d5 d6 e, Value.agg cs = .agg #[c0, c1, c2, c3, c4, c5, c6, d0, d1, d2, d3, d4, d5, d6, e] := by
 obtain ⟨l⟩ := cs
 match l, h with
 | [a, b, c, d, e, f, g, a2, b2, c2, d2, e2, f2, g2, h2], _ => exact ⟨_, _, _, _, _, _, _, _, _, _, _, _, _, _, _, rfl⟩
theorem own : ownKnob Tryz.prog.godebug = none := by kernel_rfl
theorem laidOut : laidOutB Tryz.prog = true := by kernel_rfl
set_option maxRecDepth 100000 in
theorem lifted (os : Os) (started : os.Started) (H : Type) (enc : TypeId × Value → H) :
  ReturnsInHanded {} Tryz.checked os 9 .any (Rows.fnExactSheafExtendedSpec.pre6 enc Tryz.prog Tryz.f9 Rows.fnExactSheafExtendedRow.domain false) (Rows.fnExactSheafExtendedSpec.post enc Tryz.prog Tryz.f9 false true false false) := by
 refine returnsInHanded_of_change_sized (C := Tryz.checked) own started (by kernel_rfl) Tryz.func9
  (ChangeSpec.witness6 (enc := enc) (C := Tryz.checked) false ⟨#[], #[.agg #[.int .i64 0, .slice none 0 0, .slice none 0 0, .slice none 0 0, .slice none 0 0, .slice none 0 0], .agg #[.int .i64 0, .slice none 0 0, .slice none 0 0, .slice none 0 0, .slice none 0 0, .slice none 0 0, .slice none 0 0, .int .i64 0, .slice none 0 0, .slice none 0 0, .slice none 0 0, .slice none 0 0, .slice none 0 0, .slice none 0 0, .slice none 0 0]], []⟩ 8 (by kernel_rfl) (by kernel_rfl) (by kernel_rfl) (by kernel_rfl)) ?_
 intro W base args ds gs before hval0 hW hcnd hsz _
 have hval : ∀ (j : Nat) t v, Tryz.f9.params[j]? = some t → args[j]? = some v → Value.okWide Tryz.prog W .any base t v := hval0
 have hsz : (DataW.weightsEach Tryz.prog (Tryz.f9.params.toList ++ Rows.fnExactSheafExtendedSpec.plain.varTypes Tryz.prog) (ds ++ gs)).all (· ≤ reachBytes) = true := hsz
 have hW' := hW
 obtain ⟨p, q, hA0, hV, rfl, hfz, hnd⟩ := hW
 have hA : DataW.TrodAll enc Tryz.prog W 0 (fun _ => true) true Tryz.f9.params.toList args.toList ds p := hA0
 rw [Tryz.params9] at hA hval hsz
 obtain ⟨v0, v1, d0, d1, p0, p1, rfl, rfl, rfl, h0, h1⟩ := trodAll_two hA
 obtain ⟨rfl, rfl⟩ := trodVars_none hV
 have hw0 : ∀ n, n ∈ d0.weights Tryz.prog 28 → n ≤ reachBytes := fun n hn => by
  have := List.all_eq_true.1 hsz n (by simp only [List.append_nil, DataW.weightsEach, List.mem_append, List.cons_append]; exact .inl hn)
  simpa using this
 have hw1 : ∀ n, n ∈ d1.weights Tryz.prog 56 → n ≤ reachBytes := fun n hn => by
  have := List.all_eq_true.1 hsz n (by simp only [List.append_nil, DataW.weightsEach, List.mem_append, List.cons_append, List.nil_append]; exact .inr (.inl hn))
  simpa using this
 have hv0 : ∃ c0 c1 c2 c3 c4 c5, v0 = .agg #[c0, c1, c2, c3, c4, c5] := by
  have := hval 0 28 v0 rfl rfl
  simp only [Value.okWide, Tryz.underlying28] at this
  obtain ⟨cs, rfl, hs, _⟩ := this
  exact six cs (hs.trans (by kernel_rfl))
 have hv1 : ∃ c0 c1 c2 c3 c4 c5 c6 d0 d1 d2 d3 d4 d5 d6 e, v1 = .agg #[c0, c1, c2, c3, c4, c5, c6, d0, d1, d2, d3, d4, d5, d6, e] := by
  have := hval 1 56 v1 rfl rfl
  simp only [Value.okWide, Tryz.underlying56] at this
  obtain ⟨cs, rfl, hs, _⟩ := this
  exact fifteen cs (hs.trans (by kernel_rfl))
 obtain ⟨c0, c1, c2, c3, c4, c5, rfl⟩ := hv0
 obtain ⟨e0, e1, e2, e3, e4, e5, e6, g0, g1, g2, g3, g4, g5, g6, ee, rfl⟩ := hv1
 have h0' := h0
 have h1' := h1
 obtain ⟨fuel0, h0⟩ := h0
 obtain ⟨fuel1, h1⟩ := h1
 obtain ⟨n, a1, a2, a3, a4, a5, w1, w2, w3, w4, w5, r0⟩ := Shf.rd_top h0 hw0
 obtain ⟨m, b1, b2, b3, b4, b5, b6, m2, k1, k2, k3, k4, k5, k6, kd, ⟨u1, u2, u3, u4, u5, u6⟩, ⟨y1, y2, y3, y4, y5, y6⟩, yd, r1⟩ := Shf.rd_sm h1 hw1
 clear hA0 hval0 hval
 simp only [List.append_nil] at hW'
 refine (law_calls W _ _ n m m2 a1 a2 a3 a4 a5 b1 b2 b3 b4 b5 b6 k1 k2 k3 k4 k5 k6 kd w1 w2 w3 w4 w5 u1 u2 u3 u4 u5 u6 y1 y2 y3 y4 y5 y6 yd r0 r1).mono fun e W' ⟨he, bel⟩ => ?_
 subst he
 have hlt0 : ∀ x ∈ p0, x.block < W.heap.size := fun x hx => by simpa using hW'.lt x (by simp [hx])
 have hlt1 : ∀ x ∈ p1, x.block < W.heap.size := fun x hx => by simpa using hW'.lt x (by simp [hx])
 refine ⟨_, rfl, _, _, _, [], (p0 ++ p1), [], hW', trodAll_mk1 (shut_bool Tryz.underlying4 true), ?_, rfl, bel.frame _, fun h => by cases h⟩
 exact trodAll_mk2 (Below.trod laidOut (by kernel_rfl) (of_decide_eq_true (by kernel_rfl)) h0' bel hlt0) (Below.trod laidOut (by kernel_rfl) (of_decide_eq_true (by kernel_rfl)) h1' bel hlt1)
theorem over : Rows.fnExactSheafExtendedRow.holds Tryz.pinned (OpenSpec.ofChange Rows.fnExactSheafExtendedSpec) :=
 OpenClaim.holds_of_wide 9 Tryz.f9 rfl rfl rfl rfl rfl rfl rfl ⟨rfl, rfl, rfl, rfl, rfl⟩ rfl rfl rfl rfl rfl (by kernel_rfl) Tryz.func9 (by kernel_rfl)
  (of_decide_eq_true (by kernel_rfl)) (by unfold Func.isWrapper; first | (rw [if_pos (by decide +kernel)]; kernel_rfl) | (rw [if_neg (by decide +kernel)]; exact ⟨rfl, rfl⟩))
  (fun os started H enc _ => lifted os started H enc)
theorem fnExactSheafExtended_holds : Rows.FnExactSheafExtendedSaid := over
#print axioms fnExactSheafExtended_holds
end Go.Proofs.YtllfbkdekhemeaaGreat
