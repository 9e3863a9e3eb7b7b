/-
  No cell of these rows narrows 'for every input' (looked for: loops, veiled, ifaces, maps, wideKeys, modest, calm, conditions, laid).
  DERIVED. THE GIVEN ROWS OF THIS SEAT. 5 by the template 'for every input the law returns true; each argument reads behind the call as it read before'; 0 by the template 'total and deterministic' (their statements: YtnpimpkmgmnhhaaGreatTotals.lean).
  GIVEN WITH THE SEED: the statements are not yours to turn. If you find one false, say at which input.
  Laid BY PROGRAM, IN A SANDBOX (cutbox-rows.mjs): the forced cells as the released guide's own fill.sh prints them over the translation 3bfb488867bd1983… (all of the seat's roots in one cut). By AI agents, Wed Nov 11 2026. No macro, syntax, notation, axiom, sorry.
-/
import Derived.Test.YtnpimpkmgmnhhaaGreatChecked
import GoSem.Claim
import GoSem.ClaimJoined
import GoSem.ClaimMapViews
import Derived.JoinedTies
import Derived.KernelRfl
namespace Go.Proofs.YtnpimpkmgmnhhaaGreat
/- THE CELL 'sum', in the pinned program and in every row, IS THE sha256 OF THE DUMP (.gsa) THAT YtnpimpkmgmnhhaaGreatProg.lean LOADS. Nothing in Lean hashes anything: it is a label: what it is worth is what the hold of that sum in a sandbox is worth. -/
noncomputable def Tryz.pinned : Pinned := { name := "ytnpimpkmgmnhhaagreat", sum := "3bfb488867bd19832a659a23beb3bf12baef401cdfaad3cc502b5416d1fa4c44", checked := Tryz.checked }
namespace Rows
def none {H : Type} : Left H := { results := [], args := [] }

/-- 'laws.FnFixedParts': WHATEVER THE INPUT: true; the input reads as it did. -/
def fnFixedPartsSpec : ChangeSpec := { name := "fnFixedParts", fn := fun _ => fun
  | [d] => { results := [.lit (.bool true)], args := [d] }
  | _ => none }
def fnFixedPartsRow : OpenClaim := { program := "ytnpimpkmgmnhhaagreat", sum := "3bfb488867bd19832a659a23beb3bf12baef401cdfaad3cc502b5416d1fa4c44", func := "loop.example/g01083/laws.FnFixedParts", spec := "fnFixedParts", unfollowed := true, recurses := true, apart := false }
def FnFixedPartsSaid : Prop := fnFixedPartsRow.holds Tryz.pinned (OpenSpec.ofChange fnFixedPartsSpec)

/-- ITS FALSE NEIGHBOUR: 'it returns false'. Refute it at one input. -/
def fnFixedPartsWrong : ChangeSpec := { name := "fnFixedParts", fn := fun _ => fun
  | [d] => { results := [.lit (.bool false)], args := [d] }
  | _ => none }
def FnFixedPartsWrongFalsely : Prop := fnFixedPartsRow.holds Tryz.pinned (OpenSpec.ofChange fnFixedPartsWrong)

/-- 'laws.FnPostcomposition': WHATEVER THE INPUT: true; the input reads as it did. -/
def fnPostcompositionSpec : ChangeSpec := { name := "fnPostcomposition", fn := fun _ => fun
  | [d] => { results := [.lit (.bool true)], args := [d] }
  | _ => none }
def fnPostcompositionRow : OpenClaim := { program := "ytnpimpkmgmnhhaagreat", sum := "3bfb488867bd19832a659a23beb3bf12baef401cdfaad3cc502b5416d1fa4c44", func := "loop.example/g01083/laws.FnPostcomposition", spec := "fnPostcomposition", unfollowed := true, recurses := true, apart := false }
def FnPostcompositionSaid : Prop := fnPostcompositionRow.holds Tryz.pinned (OpenSpec.ofChange fnPostcompositionSpec)

/-- ITS FALSE NEIGHBOUR: 'it returns false'. Refute it at one input. -/
def fnPostcompositionWrong : ChangeSpec := { name := "fnPostcomposition", fn := fun _ => fun
  | [d] => { results := [.lit (.bool false)], args := [d] }
  | _ => none }
def FnPostcompositionWrongFalsely : Prop := fnPostcompositionRow.holds Tryz.pinned (OpenSpec.ofChange fnPostcompositionWrong)

/-- 'laws.FnPrecomposition': WHATEVER THE INPUT: true; the input reads as it did. -/
def fnPrecompositionSpec : ChangeSpec := { name := "fnPrecomposition", fn := fun _ => fun
  | [d] => { results := [.lit (.bool true)], args := [d] }
  | _ => none }
def fnPrecompositionRow : OpenClaim := { program := "ytnpimpkmgmnhhaagreat", sum := "3bfb488867bd19832a659a23beb3bf12baef401cdfaad3cc502b5416d1fa4c44", func := "loop.example/g01083/laws.FnPrecomposition", spec := "fnPrecomposition", unfollowed := true, recurses := true, apart := false }
def FnPrecompositionSaid : Prop := fnPrecompositionRow.holds Tryz.pinned (OpenSpec.ofChange fnPrecompositionSpec)

/-- ITS FALSE NEIGHBOUR: 'it returns false'. Refute it at one input. -/
def fnPrecompositionWrong : ChangeSpec := { name := "fnPrecomposition", fn := fun _ => fun
  | [d] => { results := [.lit (.bool false)], args := [d] }
  | _ => none }
def FnPrecompositionWrongFalsely : Prop := fnPrecompositionRow.holds Tryz.pinned (OpenSpec.ofChange fnPrecompositionWrong)

/-- 'laws.FnCurrying': WHATEVER THE INPUT: true; the input reads as it did. -/
def fnCurryingSpec : ChangeSpec := { name := "fnCurrying", fn := fun _ => fun
  | [d] => { results := [.lit (.bool true)], args := [d] }
  | _ => none }
def fnCurryingRow : OpenClaim := { program := "ytnpimpkmgmnhhaagreat", sum := "3bfb488867bd19832a659a23beb3bf12baef401cdfaad3cc502b5416d1fa4c44", func := "loop.example/g01083/laws.FnCurrying", spec := "fnCurrying", unfollowed := true, recurses := true, apart := false }
def FnCurryingSaid : Prop := fnCurryingRow.holds Tryz.pinned (OpenSpec.ofChange fnCurryingSpec)

/-- ITS FALSE NEIGHBOUR: 'it returns false'. Refute it at one input. -/
def fnCurryingWrong : ChangeSpec := { name := "fnCurrying", fn := fun _ => fun
  | [d] => { results := [.lit (.bool false)], args := [d] }
  | _ => none }
def FnCurryingWrongFalsely : Prop := fnCurryingRow.holds Tryz.pinned (OpenSpec.ofChange fnCurryingWrong)

/-- 'laws.FnIdempotentMonads': WHATEVER THE INPUT: true; the input reads as it did. -/
def fnIdempotentMonadsSpec : ChangeSpec := { name := "fnIdempotentMonads", fn := fun _ => fun
  | [d] => { results := [.lit (.bool true)], args := [d] }
  | _ => none }
def fnIdempotentMonadsRow : OpenClaim := { program := "ytnpimpkmgmnhhaagreat", sum := "3bfb488867bd19832a659a23beb3bf12baef401cdfaad3cc502b5416d1fa4c44", func := "loop.example/g01083/laws.FnIdempotentMonads", spec := "fnIdempotentMonads", unfollowed := true, recurses := true, apart := false }
def FnIdempotentMonadsSaid : Prop := fnIdempotentMonadsRow.holds Tryz.pinned (OpenSpec.ofChange fnIdempotentMonadsSpec)

/-- ITS FALSE NEIGHBOUR: 'it returns false'. Refute it at one input. -/
def fnIdempotentMonadsWrong : ChangeSpec := { name := "fnIdempotentMonads", fn := fun _ => fun
  | [d] => { results := [.lit (.bool false)], args := [d] }
  | _ => none }
def FnIdempotentMonadsWrongFalsely : Prop := fnIdempotentMonadsRow.holds Tryz.pinned (OpenSpec.ofChange fnIdempotentMonadsWrong)

/- THE SECOND FORM. 'bulk': how many values and letters a reading holds, each counted each time it is reached (what is shared counts as often as it is met; a slice's spare places count too). A statement '..UptoSaid' is the law's where the arguments, and the package variables that the reading takes, are together of bulk at most 1048576: NARROWER than '..Said'. Prove '..Said' where nothing that the law and all that it calls make is longer than what came in: it says more and counts as full. Else prove '..UptoSaid'. A law counts once. -/
mutual
def uptoBulk {H : Type} : DataW H → Nat
  | .lit (.string bytes) => bytes.length + 1
  | .lit _ => 1
  | .nil => 1
  | .ptr d => uptoBulk d + 1
  | .slice elems spare => uptoBulkAll elems + uptoBulkAll spare + 1
  | .agg parts => uptoBulkAll parts + 1
  | .iface _ d => uptoBulk d + 1
  | .map entries => uptoBulkEntries entries + 1
  | .held _ => 1
def uptoBulkAll {H : Type} : List (DataW H) → Nat
  | [] => 0
  | d :: r => uptoBulk d + uptoBulkAll r
def uptoBulkEntries {H : Type} : List (Lit × DataW H) → Nat
  | [] => 0
  | x :: r => uptoBulkEntry x + uptoBulkEntries r
def uptoBulkEntry {H : Type} : Lit × DataW H → Nat
  | (.string bytes, d) => bytes.length + uptoBulk d + 1
  | (_, d) => uptoBulk d + 1
 end
def uptoSmall : (H : Type) → List (DataW H) → Bool := fun _ ds => decide (uptoBulkAll ds ≤ 1048576)
def OpenSpec.upto (s : _root_.Go.ChangeSpec) : _root_.Go.OpenSpec := { _root_.Go.OpenSpec.ofChange s with cond := some uptoSmall }

/-- 'laws.FnFixedParts', WHERE WHAT IT READS IS OF BULK AT MOST 1048576: true; the input reads as it did. -/
def fnFixedPartsUptoRow : OpenClaim := { program := "ytnpimpkmgmnhhaagreat", sum := "3bfb488867bd19832a659a23beb3bf12baef401cdfaad3cc502b5416d1fa4c44", func := "loop.example/g01083/laws.FnFixedParts", spec := "fnFixedParts", unfollowed := true, recurses := true, apart := false, narrowed := true }
def FnFixedPartsUptoSaid : Prop := fnFixedPartsUptoRow.holds Tryz.pinned (OpenSpec.upto fnFixedPartsSpec)

/-- 'laws.FnPostcomposition', WHERE WHAT IT READS IS OF BULK AT MOST 1048576: true; the input reads as it did. -/
def fnPostcompositionUptoRow : OpenClaim := { program := "ytnpimpkmgmnhhaagreat", sum := "3bfb488867bd19832a659a23beb3bf12baef401cdfaad3cc502b5416d1fa4c44", func := "loop.example/g01083/laws.FnPostcomposition", spec := "fnPostcomposition", unfollowed := true, recurses := true, apart := false, narrowed := true }
def FnPostcompositionUptoSaid : Prop := fnPostcompositionUptoRow.holds Tryz.pinned (OpenSpec.upto fnPostcompositionSpec)

/-- 'laws.FnPrecomposition', WHERE WHAT IT READS IS OF BULK AT MOST 1048576: true; the input reads as it did. -/
def fnPrecompositionUptoRow : OpenClaim := { program := "ytnpimpkmgmnhhaagreat", sum := "3bfb488867bd19832a659a23beb3bf12baef401cdfaad3cc502b5416d1fa4c44", func := "loop.example/g01083/laws.FnPrecomposition", spec := "fnPrecomposition", unfollowed := true, recurses := true, apart := false, narrowed := true }
def FnPrecompositionUptoSaid : Prop := fnPrecompositionUptoRow.holds Tryz.pinned (OpenSpec.upto fnPrecompositionSpec)

/-- 'laws.FnCurrying', WHERE WHAT IT READS IS OF BULK AT MOST 1048576: true; the input reads as it did. -/
def fnCurryingUptoRow : OpenClaim := { program := "ytnpimpkmgmnhhaagreat", sum := "3bfb488867bd19832a659a23beb3bf12baef401cdfaad3cc502b5416d1fa4c44", func := "loop.example/g01083/laws.FnCurrying", spec := "fnCurrying", unfollowed := true, recurses := true, apart := false, narrowed := true }
def FnCurryingUptoSaid : Prop := fnCurryingUptoRow.holds Tryz.pinned (OpenSpec.upto fnCurryingSpec)

/-- 'laws.FnIdempotentMonads', WHERE WHAT IT READS IS OF BULK AT MOST 1048576: true; the input reads as it did. -/
def fnIdempotentMonadsUptoRow : OpenClaim := { program := "ytnpimpkmgmnhhaagreat", sum := "3bfb488867bd19832a659a23beb3bf12baef401cdfaad3cc502b5416d1fa4c44", func := "loop.example/g01083/laws.FnIdempotentMonads", spec := "fnIdempotentMonads", unfollowed := true, recurses := true, apart := false, narrowed := true }
def FnIdempotentMonadsUptoSaid : Prop := fnIdempotentMonadsUptoRow.holds Tryz.pinned (OpenSpec.upto fnIdempotentMonadsSpec)

end Rows
end Go.Proofs.YtnpimpkmgmnhhaaGreat
