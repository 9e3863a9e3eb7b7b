/-
  No cell of these rows narrows 'for every input' (looked for: loops, veiled, ifaces, maps, wideKeys, modest, calm, conditions, laid).
  DERIVED. THE GIVEN ROWS OF THIS SEAT. 5 by the template 'for every input the law returns true; each argument reads behind the call as it read before'; 0 by the template 'total and deterministic' (their statements: YthflgdphhajkbaaGreatTotals.lean).
  GIVEN WITH THE SEED: the statements are not yours to turn. If you find one false, say at which input.
  Laid BY PROGRAM, IN A SANDBOX (cutbox-rows.mjs): the forced cells as the released guide's own fill.sh prints them over the translation d43037b5b3365b32… (all of the seat's roots in one cut). By AI agents, Wed Nov 11 2026. No macro, syntax, notation, axiom, sorry.
-/
import Derived.Test.YthflgdphhajkbaaGreatChecked
import GoSem.Claim
import GoSem.ClaimJoined
import GoSem.ClaimMapViews
import Derived.JoinedTies
import Derived.KernelRfl
namespace Go.Proofs.YthflgdphhajkbaaGreat
/- THE CELL 'sum', in the pinned program and in every row, IS THE sha256 OF THE DUMP (.gsa) THAT YthflgdphhajkbaaGreatProg.lean LOADS. Nothing in Lean hashes anything: it is a label: what it is worth is what the hold of that sum in a sandbox is worth. -/
noncomputable def Tryz.pinned : Pinned := { name := "ythflgdphhajkbaagreat", sum := "d43037b5b3365b3254b3bbadea05ce510d702effdad81bab6d71aafe374eca5f", checked := Tryz.checked }
namespace Rows
def none {H : Type} : Left H := { results := [], args := [] }

/-- 'laws.FnSkeletonsAlike': WHATEVER THE INPUT: true; the input reads as it did. -/
def fnSkeletonsAlikeSpec : ChangeSpec := { name := "fnSkeletonsAlike", fn := fun _ => fun
  | [d] => { results := [.lit (.bool true)], args := [d] }
  | _ => none }
def fnSkeletonsAlikeRow : OpenClaim := { program := "ythflgdphhajkbaagreat", sum := "d43037b5b3365b3254b3bbadea05ce510d702effdad81bab6d71aafe374eca5f", func := "loop.example/g01083/laws.FnSkeletonsAlike", spec := "fnSkeletonsAlike", unfollowed := true, recurses := true, apart := false }
def FnSkeletonsAlikeSaid : Prop := fnSkeletonsAlikeRow.holds Tryz.pinned (OpenSpec.ofChange fnSkeletonsAlikeSpec)

/-- ITS FALSE NEIGHBOUR: 'it returns false'. Refute it at one input. -/
def fnSkeletonsAlikeWrong : ChangeSpec := { name := "fnSkeletonsAlike", fn := fun _ => fun
  | [d] => { results := [.lit (.bool false)], args := [d] }
  | _ => none }
def FnSkeletonsAlikeWrongFalsely : Prop := fnSkeletonsAlikeRow.holds Tryz.pinned (OpenSpec.ofChange fnSkeletonsAlikeWrong)

/-- 'laws.FnGluedFamilies': WHATEVER THE INPUT: true; the input reads as it did. -/
def fnGluedFamiliesSpec : ChangeSpec := { name := "fnGluedFamilies", fn := fun _ => fun
  | [d] => { results := [.lit (.bool true)], args := [d] }
  | _ => none }
def fnGluedFamiliesRow : OpenClaim := { program := "ythflgdphhajkbaagreat", sum := "d43037b5b3365b3254b3bbadea05ce510d702effdad81bab6d71aafe374eca5f", func := "loop.example/g01083/laws.FnGluedFamilies", spec := "fnGluedFamilies", inPlace := ["sync/atomic.AddInt64"], unfollowed := true, recurses := true, apart := false }
def FnGluedFamiliesSaid : Prop := fnGluedFamiliesRow.holds Tryz.pinned (OpenSpec.ofChange fnGluedFamiliesSpec)

/-- ITS FALSE NEIGHBOUR: 'it returns false'. Refute it at one input. -/
def fnGluedFamiliesWrong : ChangeSpec := { name := "fnGluedFamilies", fn := fun _ => fun
  | [d] => { results := [.lit (.bool false)], args := [d] }
  | _ => none }
def FnGluedFamiliesWrongFalsely : Prop := fnGluedFamiliesRow.holds Tryz.pinned (OpenSpec.ofChange fnGluedFamiliesWrong)

/-- 'laws.FnSheafUnits': WHATEVER THE INPUT: true; the input reads as it did. -/
def fnSheafUnitsSpec : ChangeSpec := { name := "fnSheafUnits", fn := fun _ => fun
  | [d] => { results := [.lit (.bool true)], args := [d] }
  | _ => none }
def fnSheafUnitsRow : OpenClaim := { program := "ythflgdphhajkbaagreat", sum := "d43037b5b3365b3254b3bbadea05ce510d702effdad81bab6d71aafe374eca5f", func := "loop.example/g01083/laws.FnSheafUnits", spec := "fnSheafUnits", inPlace := ["sync/atomic.AddInt64"], unfollowed := true, recurses := true, apart := false }
def FnSheafUnitsSaid : Prop := fnSheafUnitsRow.holds Tryz.pinned (OpenSpec.ofChange fnSheafUnitsSpec)

/-- ITS FALSE NEIGHBOUR: 'it returns false'. Refute it at one input. -/
def fnSheafUnitsWrong : ChangeSpec := { name := "fnSheafUnits", fn := fun _ => fun
  | [d] => { results := [.lit (.bool false)], args := [d] }
  | _ => none }
def FnSheafUnitsWrongFalsely : Prop := fnSheafUnitsRow.holds Tryz.pinned (OpenSpec.ofChange fnSheafUnitsWrong)

/-- 'laws.FnSheavesOfMaps': WHATEVER THE INPUT: true; the input reads as it did. -/
def fnSheavesOfMapsSpec : ChangeSpec := { name := "fnSheavesOfMaps", fn := fun _ => fun
  | [d] => { results := [.lit (.bool true)], args := [d] }
  | _ => none }
def fnSheavesOfMapsRow : OpenClaim := { program := "ythflgdphhajkbaagreat", sum := "d43037b5b3365b3254b3bbadea05ce510d702effdad81bab6d71aafe374eca5f", func := "loop.example/g01083/laws.FnSheavesOfMaps", spec := "fnSheavesOfMaps", inPlace := ["sync/atomic.AddInt64"], unfollowed := true, recurses := true, apart := false }
def FnSheavesOfMapsSaid : Prop := fnSheavesOfMapsRow.holds Tryz.pinned (OpenSpec.ofChange fnSheavesOfMapsSpec)

/-- ITS FALSE NEIGHBOUR: 'it returns false'. Refute it at one input. -/
def fnSheavesOfMapsWrong : ChangeSpec := { name := "fnSheavesOfMaps", fn := fun _ => fun
  | [d] => { results := [.lit (.bool false)], args := [d] }
  | _ => none }
def FnSheavesOfMapsWrongFalsely : Prop := fnSheavesOfMapsRow.holds Tryz.pinned (OpenSpec.ofChange fnSheavesOfMapsWrong)

/-- 'laws.FnSheafUniversal': WHATEVER THE INPUT: true; the input reads as it did. -/
def fnSheafUniversalSpec : ChangeSpec := { name := "fnSheafUniversal", fn := fun _ => fun
  | [d] => { results := [.lit (.bool true)], args := [d] }
  | _ => none }
def fnSheafUniversalRow : OpenClaim := { program := "ythflgdphhajkbaagreat", sum := "d43037b5b3365b3254b3bbadea05ce510d702effdad81bab6d71aafe374eca5f", func := "loop.example/g01083/laws.FnSheafUniversal", spec := "fnSheafUniversal", inPlace := ["sync/atomic.AddInt64"], unfollowed := true, recurses := true, apart := false }
def FnSheafUniversalSaid : Prop := fnSheafUniversalRow.holds Tryz.pinned (OpenSpec.ofChange fnSheafUniversalSpec)

/-- ITS FALSE NEIGHBOUR: 'it returns false'. Refute it at one input. -/
def fnSheafUniversalWrong : ChangeSpec := { name := "fnSheafUniversal", fn := fun _ => fun
  | [d] => { results := [.lit (.bool false)], args := [d] }
  | _ => none }
def FnSheafUniversalWrongFalsely : Prop := fnSheafUniversalRow.holds Tryz.pinned (OpenSpec.ofChange fnSheafUniversalWrong)

/- THE SECOND FORM. 'bulk': how many values and letters a reading holds, each counted each time it is reached (what is shared counts as often as it is met; a slice's spare places count too). A statement '..UptoSaid' is the law's where the arguments, and the package variables that the reading takes, are together of bulk at most 1048576: NARROWER than '..Said'. Prove '..Said' where nothing that the law and all that it calls make is longer than what came in: it says more and counts as full. Else prove '..UptoSaid'. A law counts once. -/
mutual
def uptoBulk {H : Type} : DataW H → Nat
  | .lit (.string bytes) => bytes.length + 1
  | .lit _ => 1
  | .nil => 1
  | .ptr d => uptoBulk d + 1
  | .slice elems spare => uptoBulkAll elems + uptoBulkAll spare + 1
  | .agg parts => uptoBulkAll parts + 1
  | .iface _ d => uptoBulk d + 1
  | .map entries => uptoBulkEntries entries + 1
  | .held _ => 1
def uptoBulkAll {H : Type} : List (DataW H) → Nat
  | [] => 0
  | d :: r => uptoBulk d + uptoBulkAll r
def uptoBulkEntries {H : Type} : List (Lit × DataW H) → Nat
  | [] => 0
  | x :: r => uptoBulkEntry x + uptoBulkEntries r
def uptoBulkEntry {H : Type} : Lit × DataW H → Nat
  | (.string bytes, d) => bytes.length + uptoBulk d + 1
  | (_, d) => uptoBulk d + 1
 end
def uptoSmall : (H : Type) → List (DataW H) → Bool := fun _ ds => decide (uptoBulkAll ds ≤ 1048576)
def OpenSpec.upto (s : _root_.Go.ChangeSpec) : _root_.Go.OpenSpec := { _root_.Go.OpenSpec.ofChange s with cond := some uptoSmall }

/-- 'laws.FnSkeletonsAlike', WHERE WHAT IT READS IS OF BULK AT MOST 1048576: true; the input reads as it did. -/
def fnSkeletonsAlikeUptoRow : OpenClaim := { program := "ythflgdphhajkbaagreat", sum := "d43037b5b3365b3254b3bbadea05ce510d702effdad81bab6d71aafe374eca5f", func := "loop.example/g01083/laws.FnSkeletonsAlike", spec := "fnSkeletonsAlike", unfollowed := true, recurses := true, apart := false, narrowed := true }
def FnSkeletonsAlikeUptoSaid : Prop := fnSkeletonsAlikeUptoRow.holds Tryz.pinned (OpenSpec.upto fnSkeletonsAlikeSpec)

/-- 'laws.FnGluedFamilies', WHERE WHAT IT READS IS OF BULK AT MOST 1048576: true; the input reads as it did. -/
def fnGluedFamiliesUptoRow : OpenClaim := { program := "ythflgdphhajkbaagreat", sum := "d43037b5b3365b3254b3bbadea05ce510d702effdad81bab6d71aafe374eca5f", func := "loop.example/g01083/laws.FnGluedFamilies", spec := "fnGluedFamilies", inPlace := ["sync/atomic.AddInt64"], unfollowed := true, recurses := true, apart := false, narrowed := true }
def FnGluedFamiliesUptoSaid : Prop := fnGluedFamiliesUptoRow.holds Tryz.pinned (OpenSpec.upto fnGluedFamiliesSpec)

/-- 'laws.FnSheafUnits', WHERE WHAT IT READS IS OF BULK AT MOST 1048576: true; the input reads as it did. -/
def fnSheafUnitsUptoRow : OpenClaim := { program := "ythflgdphhajkbaagreat", sum := "d43037b5b3365b3254b3bbadea05ce510d702effdad81bab6d71aafe374eca5f", func := "loop.example/g01083/laws.FnSheafUnits", spec := "fnSheafUnits", inPlace := ["sync/atomic.AddInt64"], unfollowed := true, recurses := true, apart := false, narrowed := true }
def FnSheafUnitsUptoSaid : Prop := fnSheafUnitsUptoRow.holds Tryz.pinned (OpenSpec.upto fnSheafUnitsSpec)

/-- 'laws.FnSheavesOfMaps', WHERE WHAT IT READS IS OF BULK AT MOST 1048576: true; the input reads as it did. -/
def fnSheavesOfMapsUptoRow : OpenClaim := { program := "ythflgdphhajkbaagreat", sum := "d43037b5b3365b3254b3bbadea05ce510d702effdad81bab6d71aafe374eca5f", func := "loop.example/g01083/laws.FnSheavesOfMaps", spec := "fnSheavesOfMaps", inPlace := ["sync/atomic.AddInt64"], unfollowed := true, recurses := true, apart := false, narrowed := true }
def FnSheavesOfMapsUptoSaid : Prop := fnSheavesOfMapsUptoRow.holds Tryz.pinned (OpenSpec.upto fnSheavesOfMapsSpec)

/-- 'laws.FnSheafUniversal', WHERE WHAT IT READS IS OF BULK AT MOST 1048576: true; the input reads as it did. -/
def fnSheafUniversalUptoRow : OpenClaim := { program := "ythflgdphhajkbaagreat", sum := "d43037b5b3365b3254b3bbadea05ce510d702effdad81bab6d71aafe374eca5f", func := "loop.example/g01083/laws.FnSheafUniversal", spec := "fnSheafUniversal", inPlace := ["sync/atomic.AddInt64"], unfollowed := true, recurses := true, apart := false, narrowed := true }
def FnSheafUniversalUptoSaid : Prop := fnSheafUniversalUptoRow.holds Tryz.pinned (OpenSpec.upto fnSheafUniversalSpec)

end Rows
end Go.Proofs.YthflgdphhajkbaaGreat
