/-
  No cell of these rows narrows 'for every input' (looked for: loops, veiled, ifaces, maps, wideKeys, modest, calm, conditions, laid).
  DERIVED. THE GIVEN ROWS OF THIS SEAT. 7 by the template 'for every input the law returns true; each argument reads behind the call as it read before'; 0 by the template 'total and deterministic' (their statements: YtllfbkdekhemeaaGreatTotals.lean).
  GIVEN WITH THE SEED: the statements are not yours to turn. If you find one false, say at which input.
  Laid BY PROGRAM, IN A SANDBOX (cutbox-rows.mjs): the forced cells as the released guide's own fill.sh prints them over the translation a2f610447c282c9e… (all of the seat's roots in one cut). By AI agents, Wed Nov 11 2026. No macro, syntax, notation, axiom, sorry.
-/
import Derived.Test.YtllfbkdekhemeaaGreatChecked
import GoSem.Claim
import GoSem.ClaimJoined
import GoSem.ClaimMapViews
import Derived.JoinedTies
import Derived.KernelRfl
namespace Go.Proofs.YtllfbkdekhemeaaGreat
/- THE CELL 'sum', in the pinned program and in every row, IS THE sha256 OF THE DUMP (.gsa) THAT YtllfbkdekhemeaaGreatProg.lean LOADS. Nothing in Lean hashes anything: it is a label: what it is worth is what the hold of that sum in a sandbox is worth. -/
noncomputable def Tryz.pinned : Pinned := { name := "ytllfbkdekhemeaagreat", sum := "a2f610447c282c9efa5251263539e8b49c48d23ce975e2e8a3cd8017e893e183", checked := Tryz.checked }
namespace Rows
def none {H : Type} : Left H := { results := [], args := [] }

/-- 'laws.FnExactIsSheaf': WHATEVER THE INPUT: true; the input reads as it did. -/
def fnExactIsSheafSpec : ChangeSpec := { name := "fnExactIsSheaf", fn := fun _ => fun
  | [d1, d2] => { results := [.lit (.bool true)], args := [d1, d2] }
  | _ => none }
def fnExactIsSheafRow : OpenClaim := { program := "ytllfbkdekhemeaagreat", sum := "a2f610447c282c9efa5251263539e8b49c48d23ce975e2e8a3cd8017e893e183", func := "loop.example/g01083/laws.FnExactIsSheaf", spec := "fnExactIsSheaf", inPlace := ["sync/atomic.AddInt64"], unfollowed := true, recurses := true, apart := false }
def FnExactIsSheafSaid : Prop := fnExactIsSheafRow.holds Tryz.pinned (OpenSpec.ofChange fnExactIsSheafSpec)

/-- ITS FALSE NEIGHBOUR: 'it returns false'. Refute it at one input. -/
def fnExactIsSheafWrong : ChangeSpec := { name := "fnExactIsSheaf", fn := fun _ => fun
  | [d1, d2] => { results := [.lit (.bool false)], args := [d1, d2] }
  | _ => none }
def FnExactIsSheafWrongFalsely : Prop := fnExactIsSheafRow.holds Tryz.pinned (OpenSpec.ofChange fnExactIsSheafWrong)

/-- 'laws.FnExactSheafStep': WHATEVER THE INPUT: true; the input reads as it did. -/
def fnExactSheafStepSpec : ChangeSpec := { name := "fnExactSheafStep", fn := fun _ => fun
  | [d1, d2] => { results := [.lit (.bool true)], args := [d1, d2] }
  | _ => none }
def fnExactSheafStepRow : OpenClaim := { program := "ytllfbkdekhemeaagreat", sum := "a2f610447c282c9efa5251263539e8b49c48d23ce975e2e8a3cd8017e893e183", func := "loop.example/g01083/laws.FnExactSheafStep", spec := "fnExactSheafStep", inPlace := ["sync/atomic.AddInt64"], unfollowed := true, recurses := true, apart := false }
def FnExactSheafStepSaid : Prop := fnExactSheafStepRow.holds Tryz.pinned (OpenSpec.ofChange fnExactSheafStepSpec)

/-- ITS FALSE NEIGHBOUR: 'it returns false'. Refute it at one input. -/
def fnExactSheafStepWrong : ChangeSpec := { name := "fnExactSheafStep", fn := fun _ => fun
  | [d1, d2] => { results := [.lit (.bool false)], args := [d1, d2] }
  | _ => none }
def FnExactSheafStepWrongFalsely : Prop := fnExactSheafStepRow.holds Tryz.pinned (OpenSpec.ofChange fnExactSheafStepWrong)

/-- 'laws.FnExactSheafOf': WHATEVER THE INPUT: true; the input reads as it did. -/
def fnExactSheafOfSpec : ChangeSpec := { name := "fnExactSheafOf", fn := fun _ => fun
  | [d1, d2] => { results := [.lit (.bool true)], args := [d1, d2] }
  | _ => none }
def fnExactSheafOfRow : OpenClaim := { program := "ytllfbkdekhemeaagreat", sum := "a2f610447c282c9efa5251263539e8b49c48d23ce975e2e8a3cd8017e893e183", func := "loop.example/g01083/laws.FnExactSheafOf", spec := "fnExactSheafOf", inPlace := ["sync/atomic.AddInt64"], unfollowed := true, recurses := true, apart := false }
def FnExactSheafOfSaid : Prop := fnExactSheafOfRow.holds Tryz.pinned (OpenSpec.ofChange fnExactSheafOfSpec)

/-- ITS FALSE NEIGHBOUR: 'it returns false'. Refute it at one input. -/
def fnExactSheafOfWrong : ChangeSpec := { name := "fnExactSheafOf", fn := fun _ => fun
  | [d1, d2] => { results := [.lit (.bool false)], args := [d1, d2] }
  | _ => none }
def FnExactSheafOfWrongFalsely : Prop := fnExactSheafOfRow.holds Tryz.pinned (OpenSpec.ofChange fnExactSheafOfWrong)

/-- 'laws.FnExactStepUnit': WHATEVER THE INPUT: true; the input reads as it did. -/
def fnExactStepUnitSpec : ChangeSpec := { name := "fnExactStepUnit", fn := fun _ => fun
  | [d1, d2] => { results := [.lit (.bool true)], args := [d1, d2] }
  | _ => none }
def fnExactStepUnitRow : OpenClaim := { program := "ytllfbkdekhemeaagreat", sum := "a2f610447c282c9efa5251263539e8b49c48d23ce975e2e8a3cd8017e893e183", func := "loop.example/g01083/laws.FnExactStepUnit", spec := "fnExactStepUnit", inPlace := ["sync/atomic.AddInt64"], unfollowed := true, recurses := true, apart := false }
def FnExactStepUnitSaid : Prop := fnExactStepUnitRow.holds Tryz.pinned (OpenSpec.ofChange fnExactStepUnitSpec)

/-- ITS FALSE NEIGHBOUR: 'it returns false'. Refute it at one input. -/
def fnExactStepUnitWrong : ChangeSpec := { name := "fnExactStepUnit", fn := fun _ => fun
  | [d1, d2] => { results := [.lit (.bool false)], args := [d1, d2] }
  | _ => none }
def FnExactStepUnitWrongFalsely : Prop := fnExactStepUnitRow.holds Tryz.pinned (OpenSpec.ofChange fnExactStepUnitWrong)

/-- 'laws.FnExactSheafUnit': WHATEVER THE INPUT: true; the input reads as it did. -/
def fnExactSheafUnitSpec : ChangeSpec := { name := "fnExactSheafUnit", fn := fun _ => fun
  | [d1, d2] => { results := [.lit (.bool true)], args := [d1, d2] }
  | _ => none }
def fnExactSheafUnitRow : OpenClaim := { program := "ytllfbkdekhemeaagreat", sum := "a2f610447c282c9efa5251263539e8b49c48d23ce975e2e8a3cd8017e893e183", func := "loop.example/g01083/laws.FnExactSheafUnit", spec := "fnExactSheafUnit", inPlace := ["sync/atomic.AddInt64"], unfollowed := true, recurses := true, apart := false }
def FnExactSheafUnitSaid : Prop := fnExactSheafUnitRow.holds Tryz.pinned (OpenSpec.ofChange fnExactSheafUnitSpec)

/-- ITS FALSE NEIGHBOUR: 'it returns false'. Refute it at one input. -/
def fnExactSheafUnitWrong : ChangeSpec := { name := "fnExactSheafUnit", fn := fun _ => fun
  | [d1, d2] => { results := [.lit (.bool false)], args := [d1, d2] }
  | _ => none }
def FnExactSheafUnitWrongFalsely : Prop := fnExactSheafUnitRow.holds Tryz.pinned (OpenSpec.ofChange fnExactSheafUnitWrong)

/-- 'laws.FnExactSheafOfMap': WHATEVER THE INPUT: true; the input reads as it did. -/
def fnExactSheafOfMapSpec : ChangeSpec := { name := "fnExactSheafOfMap", fn := fun _ => fun
  | [d1, d2] => { results := [.lit (.bool true)], args := [d1, d2] }
  | _ => none }
def fnExactSheafOfMapRow : OpenClaim := { program := "ytllfbkdekhemeaagreat", sum := "a2f610447c282c9efa5251263539e8b49c48d23ce975e2e8a3cd8017e893e183", func := "loop.example/g01083/laws.FnExactSheafOfMap", spec := "fnExactSheafOfMap", inPlace := ["sync/atomic.AddInt64"], unfollowed := true, recurses := true, apart := false }
def FnExactSheafOfMapSaid : Prop := fnExactSheafOfMapRow.holds Tryz.pinned (OpenSpec.ofChange fnExactSheafOfMapSpec)

/-- ITS FALSE NEIGHBOUR: 'it returns false'. Refute it at one input. -/
def fnExactSheafOfMapWrong : ChangeSpec := { name := "fnExactSheafOfMap", fn := fun _ => fun
  | [d1, d2] => { results := [.lit (.bool false)], args := [d1, d2] }
  | _ => none }
def FnExactSheafOfMapWrongFalsely : Prop := fnExactSheafOfMapRow.holds Tryz.pinned (OpenSpec.ofChange fnExactSheafOfMapWrong)

/-- 'laws.FnExactSheafExtended': WHATEVER THE INPUT: true; the input reads as it did. -/
def fnExactSheafExtendedSpec : ChangeSpec := { name := "fnExactSheafExtended", fn := fun _ => fun
  | [d1, d2] => { results := [.lit (.bool true)], args := [d1, d2] }
  | _ => none }
def fnExactSheafExtendedRow : OpenClaim := { program := "ytllfbkdekhemeaagreat", sum := "a2f610447c282c9efa5251263539e8b49c48d23ce975e2e8a3cd8017e893e183", func := "loop.example/g01083/laws.FnExactSheafExtended", spec := "fnExactSheafExtended", inPlace := ["sync/atomic.AddInt64"], unfollowed := true, recurses := true, apart := false }
def FnExactSheafExtendedSaid : Prop := fnExactSheafExtendedRow.holds Tryz.pinned (OpenSpec.ofChange fnExactSheafExtendedSpec)

/-- ITS FALSE NEIGHBOUR: 'it returns false'. Refute it at one input. -/
def fnExactSheafExtendedWrong : ChangeSpec := { name := "fnExactSheafExtended", fn := fun _ => fun
  | [d1, d2] => { results := [.lit (.bool false)], args := [d1, d2] }
  | _ => none }
def FnExactSheafExtendedWrongFalsely : Prop := fnExactSheafExtendedRow.holds Tryz.pinned (OpenSpec.ofChange fnExactSheafExtendedWrong)

/- THE SECOND FORM. 'bulk': how many values and letters a reading holds, each counted each time it is reached (what is shared counts as often as it is met; a slice's spare places count too). A statement '..UptoSaid' is the law's where the arguments, and the package variables that the reading takes, are together of bulk at most 1048576: NARROWER than '..Said'. Prove '..Said' where nothing that the law and all that it calls make is longer than what came in: it says more and counts as full. Else prove '..UptoSaid'. A law counts once. -/
mutual
def uptoBulk {H : Type} : DataW H → Nat
  | .lit (.string bytes) => bytes.length + 1
  | .lit _ => 1
  | .nil => 1
  | .ptr d => uptoBulk d + 1
  | .slice elems spare => uptoBulkAll elems + uptoBulkAll spare + 1
  | .agg parts => uptoBulkAll parts + 1
  | .iface _ d => uptoBulk d + 1
  | .map entries => uptoBulkEntries entries + 1
  | .held _ => 1
def uptoBulkAll {H : Type} : List (DataW H) → Nat
  | [] => 0
  | d :: r => uptoBulk d + uptoBulkAll r
def uptoBulkEntries {H : Type} : List (Lit × DataW H) → Nat
  | [] => 0
  | x :: r => uptoBulkEntry x + uptoBulkEntries r
def uptoBulkEntry {H : Type} : Lit × DataW H → Nat
  | (.string bytes, d) => bytes.length + uptoBulk d + 1
  | (_, d) => uptoBulk d + 1
 end
def uptoSmall : (H : Type) → List (DataW H) → Bool := fun _ ds => decide (uptoBulkAll ds ≤ 1048576)
def OpenSpec.upto (s : _root_.Go.ChangeSpec) : _root_.Go.OpenSpec := { _root_.Go.OpenSpec.ofChange s with cond := some uptoSmall }

/-- 'laws.FnExactIsSheaf', WHERE WHAT IT READS IS OF BULK AT MOST 1048576: true; the input reads as it did. -/
def fnExactIsSheafUptoRow : OpenClaim := { program := "ytllfbkdekhemeaagreat", sum := "a2f610447c282c9efa5251263539e8b49c48d23ce975e2e8a3cd8017e893e183", func := "loop.example/g01083/laws.FnExactIsSheaf", spec := "fnExactIsSheaf", inPlace := ["sync/atomic.AddInt64"], unfollowed := true, recurses := true, apart := false, narrowed := true }
def FnExactIsSheafUptoSaid : Prop := fnExactIsSheafUptoRow.holds Tryz.pinned (OpenSpec.upto fnExactIsSheafSpec)

/-- 'laws.FnExactSheafStep', WHERE WHAT IT READS IS OF BULK AT MOST 1048576: true; the input reads as it did. -/
def fnExactSheafStepUptoRow : OpenClaim := { program := "ytllfbkdekhemeaagreat", sum := "a2f610447c282c9efa5251263539e8b49c48d23ce975e2e8a3cd8017e893e183", func := "loop.example/g01083/laws.FnExactSheafStep", spec := "fnExactSheafStep", inPlace := ["sync/atomic.AddInt64"], unfollowed := true, recurses := true, apart := false, narrowed := true }
def FnExactSheafStepUptoSaid : Prop := fnExactSheafStepUptoRow.holds Tryz.pinned (OpenSpec.upto fnExactSheafStepSpec)

/-- 'laws.FnExactSheafOf', WHERE WHAT IT READS IS OF BULK AT MOST 1048576: true; the input reads as it did. -/
def fnExactSheafOfUptoRow : OpenClaim := { program := "ytllfbkdekhemeaagreat", sum := "a2f610447c282c9efa5251263539e8b49c48d23ce975e2e8a3cd8017e893e183", func := "loop.example/g01083/laws.FnExactSheafOf", spec := "fnExactSheafOf", inPlace := ["sync/atomic.AddInt64"], unfollowed := true, recurses := true, apart := false, narrowed := true }
def FnExactSheafOfUptoSaid : Prop := fnExactSheafOfUptoRow.holds Tryz.pinned (OpenSpec.upto fnExactSheafOfSpec)

/-- 'laws.FnExactStepUnit', WHERE WHAT IT READS IS OF BULK AT MOST 1048576: true; the input reads as it did. -/
def fnExactStepUnitUptoRow : OpenClaim := { program := "ytllfbkdekhemeaagreat", sum := "a2f610447c282c9efa5251263539e8b49c48d23ce975e2e8a3cd8017e893e183", func := "loop.example/g01083/laws.FnExactStepUnit", spec := "fnExactStepUnit", inPlace := ["sync/atomic.AddInt64"], unfollowed := true, recurses := true, apart := false, narrowed := true }
def FnExactStepUnitUptoSaid : Prop := fnExactStepUnitUptoRow.holds Tryz.pinned (OpenSpec.upto fnExactStepUnitSpec)

/-- 'laws.FnExactSheafUnit', WHERE WHAT IT READS IS OF BULK AT MOST 1048576: true; the input reads as it did. -/
def fnExactSheafUnitUptoRow : OpenClaim := { program := "ytllfbkdekhemeaagreat", sum := "a2f610447c282c9efa5251263539e8b49c48d23ce975e2e8a3cd8017e893e183", func := "loop.example/g01083/laws.FnExactSheafUnit", spec := "fnExactSheafUnit", inPlace := ["sync/atomic.AddInt64"], unfollowed := true, recurses := true, apart := false, narrowed := true }
def FnExactSheafUnitUptoSaid : Prop := fnExactSheafUnitUptoRow.holds Tryz.pinned (OpenSpec.upto fnExactSheafUnitSpec)

/-- 'laws.FnExactSheafOfMap', WHERE WHAT IT READS IS OF BULK AT MOST 1048576: true; the input reads as it did. -/
def fnExactSheafOfMapUptoRow : OpenClaim := { program := "ytllfbkdekhemeaagreat", sum := "a2f610447c282c9efa5251263539e8b49c48d23ce975e2e8a3cd8017e893e183", func := "loop.example/g01083/laws.FnExactSheafOfMap", spec := "fnExactSheafOfMap", inPlace := ["sync/atomic.AddInt64"], unfollowed := true, recurses := true, apart := false, narrowed := true }
def FnExactSheafOfMapUptoSaid : Prop := fnExactSheafOfMapUptoRow.holds Tryz.pinned (OpenSpec.upto fnExactSheafOfMapSpec)

/-- 'laws.FnExactSheafExtended', WHERE WHAT IT READS IS OF BULK AT MOST 1048576: true; the input reads as it did. -/
def fnExactSheafExtendedUptoRow : OpenClaim := { program := "ytllfbkdekhemeaagreat", sum := "a2f610447c282c9efa5251263539e8b49c48d23ce975e2e8a3cd8017e893e183", func := "loop.example/g01083/laws.FnExactSheafExtended", spec := "fnExactSheafExtended", inPlace := ["sync/atomic.AddInt64"], unfollowed := true, recurses := true, apart := false, narrowed := true }
def FnExactSheafExtendedUptoSaid : Prop := fnExactSheafExtendedUptoRow.holds Tryz.pinned (OpenSpec.upto fnExactSheafExtendedSpec)

end Rows
end Go.Proofs.YtllfbkdekhemeaaGreat
