/-
  No cell of these rows narrows 'for every input' (looked for: loops, veiled, ifaces, maps, wideKeys, modest, calm, conditions, laid).
  DERIVED. THE GIVEN ROWS OF THIS SEAT. 7 by the template 'for every input the law returns true; each argument reads behind the call as it read before'; 0 by the template 'total and deterministic' (their statements: YtadpkiiglobmpaaGreatTotals.lean).
  GIVEN WITH THE SEED: the statements are not yours to turn. If you find one false, say at which input.
  Laid BY PROGRAM, IN A SANDBOX (cutbox-rows.mjs): the forced cells as the released guide's own fill.sh prints them over the translation 120eb7a20ad8d133… (all of the seat's roots in one cut). By AI agents, Wed Nov 11 2026. No macro, syntax, notation, axiom, sorry.
-/
import Derived.Test.YtadpkiiglobmpaaGreatChecked
import GoSem.Claim
import GoSem.ClaimJoined
import GoSem.ClaimMapViews
import Derived.JoinedTies
import Derived.KernelRfl
namespace Go.Proofs.YtadpkiiglobmpaaGreat
/- THE CELL 'sum', in the pinned program and in every row, IS THE sha256 OF THE DUMP (.gsa) THAT YtadpkiiglobmpaaGreatProg.lean LOADS. Nothing in Lean hashes anything: it is a label: what it is worth is what the hold of that sum in a sandbox is worth. -/
noncomputable def Tryz.pinned : Pinned := { name := "ytadpkiiglobmpaagreat", sum := "120eb7a20ad8d1334c5f5903961843940f26b824df514fa1a78310fb6ff81615", checked := Tryz.checked }
namespace Rows
def none {H : Type} : Left H := { results := [], args := [] }

/-- 'laws.FnSolutions': WHATEVER THE INPUT: true; the input reads as it did. -/
def fnSolutionsSpec : ChangeSpec := { name := "fnSolutions", fn := fun _ => fun
  | [d] => { results := [.lit (.bool true)], args := [d] }
  | _ => none }
def fnSolutionsRow : OpenClaim := { program := "ytadpkiiglobmpaagreat", sum := "120eb7a20ad8d1334c5f5903961843940f26b824df514fa1a78310fb6ff81615", func := "loop.example/g01083/laws.FnSolutions", spec := "fnSolutions", unfollowed := true, recurses := true, plainKeys := false, apart := false }
def FnSolutionsSaid : Prop := fnSolutionsRow.holds Tryz.pinned (OpenSpec.ofChange fnSolutionsSpec)

/-- ITS FALSE NEIGHBOUR: 'it returns false'. Refute it at one input. -/
def fnSolutionsWrong : ChangeSpec := { name := "fnSolutions", fn := fun _ => fun
  | [d] => { results := [.lit (.bool false)], args := [d] }
  | _ => none }
def FnSolutionsWrongFalsely : Prop := fnSolutionsRow.holds Tryz.pinned (OpenSpec.ofChange fnSolutionsWrong)

/-- 'laws.FnSections': WHATEVER THE INPUT: true; the input reads as it did. -/
def fnSectionsSpec : ChangeSpec := { name := "fnSections", fn := fun _ => fun
  | [d] => { results := [.lit (.bool true)], args := [d] }
  | _ => none }
def fnSectionsRow : OpenClaim := { program := "ytadpkiiglobmpaagreat", sum := "120eb7a20ad8d1334c5f5903961843940f26b824df514fa1a78310fb6ff81615", func := "loop.example/g01083/laws.FnSections", spec := "fnSections", unfollowed := true, recurses := true, plainKeys := false, apart := false }
def FnSectionsSaid : Prop := fnSectionsRow.holds Tryz.pinned (OpenSpec.ofChange fnSectionsSpec)

/-- ITS FALSE NEIGHBOUR: 'it returns false'. Refute it at one input. -/
def fnSectionsWrong : ChangeSpec := { name := "fnSections", fn := fun _ => fun
  | [d] => { results := [.lit (.bool false)], args := [d] }
  | _ => none }
def FnSectionsWrongFalsely : Prop := fnSectionsRow.holds Tryz.pinned (OpenSpec.ofChange fnSectionsWrong)

/-- 'laws.FnSieves': WHATEVER THE INPUT: true; the input reads as it did. -/
def fnSievesSpec : ChangeSpec := { name := "fnSieves", fn := fun _ => fun
  | [d] => { results := [.lit (.bool true)], args := [d] }
  | _ => none }
def fnSievesRow : OpenClaim := { program := "ytadpkiiglobmpaagreat", sum := "120eb7a20ad8d1334c5f5903961843940f26b824df514fa1a78310fb6ff81615", func := "loop.example/g01083/laws.FnSieves", spec := "fnSieves", inPlace := ["sync/atomic.LoadUint32", "(*internal/sync.Mutex).Lock", "internal/race.Disable", "sync/atomic.CompareAndSwapInt32", "internal/race.Enable", "internal/race.Acquire", "(*internal/sync.Mutex).lockSlow", "internal/sync.runtime_canSpin", "internal/sync.runtime_doSpin", "internal/sync.throw", "internal/sync.runtime_nanotime", "internal/sync.runtime_SemacquireMutex", "sync/atomic.AddInt32", "(*internal/sync.Mutex).Unlock", "internal/race.ReleaseMerge", "(*internal/sync.Mutex).unlockSlow", "internal/sync.fatal", "internal/sync.runtime_Semrelease", "sync/atomic.StoreUint32"], unfollowed := true, recurses := true, plainKeys := false, apart := false }
def FnSievesSaid : Prop := fnSievesRow.holds Tryz.pinned (OpenSpec.ofChange fnSievesSpec)

/-- ITS FALSE NEIGHBOUR: 'it returns false'. Refute it at one input. -/
def fnSievesWrong : ChangeSpec := { name := "fnSieves", fn := fun _ => fun
  | [d] => { results := [.lit (.bool false)], args := [d] }
  | _ => none }
def FnSievesWrongFalsely : Prop := fnSievesRow.holds Tryz.pinned (OpenSpec.ofChange fnSievesWrong)

/-- 'laws.FnRows': WHATEVER THE INPUT: true; the input reads as it did. -/
def fnRowsSpec : ChangeSpec := { name := "fnRows", fn := fun _ => fun
  | [d] => { results := [.lit (.bool true)], args := [d] }
  | _ => none }
def fnRowsRow : OpenClaim := { program := "ytadpkiiglobmpaagreat", sum := "120eb7a20ad8d1334c5f5903961843940f26b824df514fa1a78310fb6ff81615", func := "loop.example/g01083/laws.FnRows", spec := "fnRows", unfollowed := true, recurses := true, plainKeys := false, apart := false }
def FnRowsSaid : Prop := fnRowsRow.holds Tryz.pinned (OpenSpec.ofChange fnRowsSpec)

/-- ITS FALSE NEIGHBOUR: 'it returns false'. Refute it at one input. -/
def fnRowsWrong : ChangeSpec := { name := "fnRows", fn := fun _ => fun
  | [d] => { results := [.lit (.bool false)], args := [d] }
  | _ => none }
def FnRowsWrongFalsely : Prop := fnRowsRow.holds Tryz.pinned (OpenSpec.ofChange fnRowsWrong)

/-- 'laws.FnContainment': WHATEVER THE INPUT: true; the input reads as it did. -/
def fnContainmentSpec : ChangeSpec := { name := "fnContainment", fn := fun _ => fun
  | [d] => { results := [.lit (.bool true)], args := [d] }
  | _ => none }
def fnContainmentRow : OpenClaim := { program := "ytadpkiiglobmpaagreat", sum := "120eb7a20ad8d1334c5f5903961843940f26b824df514fa1a78310fb6ff81615", func := "loop.example/g01083/laws.FnContainment", spec := "fnContainment", inPlace := ["sync/atomic.LoadUint32", "(*internal/sync.Mutex).Lock", "internal/race.Disable", "sync/atomic.CompareAndSwapInt32", "internal/race.Enable", "internal/race.Acquire", "(*internal/sync.Mutex).lockSlow", "internal/sync.runtime_canSpin", "internal/sync.runtime_doSpin", "internal/sync.throw", "internal/sync.runtime_nanotime", "internal/sync.runtime_SemacquireMutex", "sync/atomic.AddInt32", "(*internal/sync.Mutex).Unlock", "internal/race.ReleaseMerge", "(*internal/sync.Mutex).unlockSlow", "internal/sync.fatal", "internal/sync.runtime_Semrelease", "sync/atomic.StoreUint32"], unfollowed := true, recurses := true, plainKeys := false, apart := false }
def FnContainmentSaid : Prop := fnContainmentRow.holds Tryz.pinned (OpenSpec.ofChange fnContainmentSpec)

/-- ITS FALSE NEIGHBOUR: 'it returns false'. Refute it at one input. -/
def fnContainmentWrong : ChangeSpec := { name := "fnContainment", fn := fun _ => fun
  | [d] => { results := [.lit (.bool false)], args := [d] }
  | _ => none }
def FnContainmentWrongFalsely : Prop := fnContainmentRow.holds Tryz.pinned (OpenSpec.ofChange fnContainmentWrong)

/-- 'laws.FnClassifier': WHATEVER THE INPUT: true; the input reads as it did. -/
def fnClassifierSpec : ChangeSpec := { name := "fnClassifier", fn := fun _ => fun
  | [d] => { results := [.lit (.bool true)], args := [d] }
  | _ => none }
def fnClassifierRow : OpenClaim := { program := "ytadpkiiglobmpaagreat", sum := "120eb7a20ad8d1334c5f5903961843940f26b824df514fa1a78310fb6ff81615", func := "loop.example/g01083/laws.FnClassifier", spec := "fnClassifier", unfollowed := true, recurses := true, plainKeys := false, apart := false }
def FnClassifierSaid : Prop := fnClassifierRow.holds Tryz.pinned (OpenSpec.ofChange fnClassifierSpec)

/-- ITS FALSE NEIGHBOUR: 'it returns false'. Refute it at one input. -/
def fnClassifierWrong : ChangeSpec := { name := "fnClassifier", fn := fun _ => fun
  | [d] => { results := [.lit (.bool false)], args := [d] }
  | _ => none }
def FnClassifierWrongFalsely : Prop := fnClassifierRow.holds Tryz.pinned (OpenSpec.ofChange fnClassifierWrong)

/-- 'laws.FnClosures': WHATEVER THE INPUT: true; the input reads as it did. -/
def fnClosuresSpec : ChangeSpec := { name := "fnClosures", fn := fun _ => fun
  | [d] => { results := [.lit (.bool true)], args := [d] }
  | _ => none }
def fnClosuresRow : OpenClaim := { program := "ytadpkiiglobmpaagreat", sum := "120eb7a20ad8d1334c5f5903961843940f26b824df514fa1a78310fb6ff81615", func := "loop.example/g01083/laws.FnClosures", spec := "fnClosures", inPlace := ["sync/atomic.AddInt64"], unfollowed := true, recurses := true, plainKeys := false, apart := false }
def FnClosuresSaid : Prop := fnClosuresRow.holds Tryz.pinned (OpenSpec.ofChange fnClosuresSpec)

/-- ITS FALSE NEIGHBOUR: 'it returns false'. Refute it at one input. -/
def fnClosuresWrong : ChangeSpec := { name := "fnClosures", fn := fun _ => fun
  | [d] => { results := [.lit (.bool false)], args := [d] }
  | _ => none }
def FnClosuresWrongFalsely : Prop := fnClosuresRow.holds Tryz.pinned (OpenSpec.ofChange fnClosuresWrong)

/- THE SECOND FORM. 'bulk': how many values and letters a reading holds, each counted each time it is reached (what is shared counts as often as it is met; a slice's spare places count too). A statement '..UptoSaid' is the law's where the arguments, and the package variables that the reading takes, are together of bulk at most 1048576: NARROWER than '..Said'. Prove '..Said' where nothing that the law and all that it calls make is longer than what came in: it says more and counts as full. Else prove '..UptoSaid'. A law counts once. -/
mutual
def uptoBulk {H : Type} : DataW H → Nat
  | .lit (.string bytes) => bytes.length + 1
  | .lit _ => 1
  | .nil => 1
  | .ptr d => uptoBulk d + 1
  | .slice elems spare => uptoBulkAll elems + uptoBulkAll spare + 1
  | .agg parts => uptoBulkAll parts + 1
  | .iface _ d => uptoBulk d + 1
  | .map entries => uptoBulkEntries entries + 1
  | .held _ => 1
def uptoBulkAll {H : Type} : List (DataW H) → Nat
  | [] => 0
  | d :: r => uptoBulk d + uptoBulkAll r
def uptoBulkEntries {H : Type} : List (Lit × DataW H) → Nat
  | [] => 0
  | x :: r => uptoBulkEntry x + uptoBulkEntries r
def uptoBulkEntry {H : Type} : Lit × DataW H → Nat
  | (.string bytes, d) => bytes.length + uptoBulk d + 1
  | (_, d) => uptoBulk d + 1
 end
def uptoSmall : (H : Type) → List (DataW H) → Bool := fun _ ds => decide (uptoBulkAll ds ≤ 1048576)
def OpenSpec.upto (s : _root_.Go.ChangeSpec) : _root_.Go.OpenSpec := { _root_.Go.OpenSpec.ofChange s with cond := some uptoSmall }

/-- 'laws.FnSolutions', WHERE WHAT IT READS IS OF BULK AT MOST 1048576: true; the input reads as it did. -/
def fnSolutionsUptoRow : OpenClaim := { program := "ytadpkiiglobmpaagreat", sum := "120eb7a20ad8d1334c5f5903961843940f26b824df514fa1a78310fb6ff81615", func := "loop.example/g01083/laws.FnSolutions", spec := "fnSolutions", unfollowed := true, recurses := true, plainKeys := false, apart := false, narrowed := true }
def FnSolutionsUptoSaid : Prop := fnSolutionsUptoRow.holds Tryz.pinned (OpenSpec.upto fnSolutionsSpec)

/-- 'laws.FnSections', WHERE WHAT IT READS IS OF BULK AT MOST 1048576: true; the input reads as it did. -/
def fnSectionsUptoRow : OpenClaim := { program := "ytadpkiiglobmpaagreat", sum := "120eb7a20ad8d1334c5f5903961843940f26b824df514fa1a78310fb6ff81615", func := "loop.example/g01083/laws.FnSections", spec := "fnSections", unfollowed := true, recurses := true, plainKeys := false, apart := false, narrowed := true }
def FnSectionsUptoSaid : Prop := fnSectionsUptoRow.holds Tryz.pinned (OpenSpec.upto fnSectionsSpec)

/-- 'laws.FnSieves', WHERE WHAT IT READS IS OF BULK AT MOST 1048576: true; the input reads as it did. -/
def fnSievesUptoRow : OpenClaim := { program := "ytadpkiiglobmpaagreat", sum := "120eb7a20ad8d1334c5f5903961843940f26b824df514fa1a78310fb6ff81615", func := "loop.example/g01083/laws.FnSieves", spec := "fnSieves", inPlace := ["sync/atomic.LoadUint32", "(*internal/sync.Mutex).Lock", "internal/race.Disable", "sync/atomic.CompareAndSwapInt32", "internal/race.Enable", "internal/race.Acquire", "(*internal/sync.Mutex).lockSlow", "internal/sync.runtime_canSpin", "internal/sync.runtime_doSpin", "internal/sync.throw", "internal/sync.runtime_nanotime", "internal/sync.runtime_SemacquireMutex", "sync/atomic.AddInt32", "(*internal/sync.Mutex).Unlock", "internal/race.ReleaseMerge", "(*internal/sync.Mutex).unlockSlow", "internal/sync.fatal", "internal/sync.runtime_Semrelease", "sync/atomic.StoreUint32"], unfollowed := true, recurses := true, plainKeys := false, apart := false, narrowed := true }
def FnSievesUptoSaid : Prop := fnSievesUptoRow.holds Tryz.pinned (OpenSpec.upto fnSievesSpec)

/-- 'laws.FnRows', WHERE WHAT IT READS IS OF BULK AT MOST 1048576: true; the input reads as it did. -/
def fnRowsUptoRow : OpenClaim := { program := "ytadpkiiglobmpaagreat", sum := "120eb7a20ad8d1334c5f5903961843940f26b824df514fa1a78310fb6ff81615", func := "loop.example/g01083/laws.FnRows", spec := "fnRows", unfollowed := true, recurses := true, plainKeys := false, apart := false, narrowed := true }
def FnRowsUptoSaid : Prop := fnRowsUptoRow.holds Tryz.pinned (OpenSpec.upto fnRowsSpec)

/-- 'laws.FnContainment', WHERE WHAT IT READS IS OF BULK AT MOST 1048576: true; the input reads as it did. -/
def fnContainmentUptoRow : OpenClaim := { program := "ytadpkiiglobmpaagreat", sum := "120eb7a20ad8d1334c5f5903961843940f26b824df514fa1a78310fb6ff81615", func := "loop.example/g01083/laws.FnContainment", spec := "fnContainment", inPlace := ["sync/atomic.LoadUint32", "(*internal/sync.Mutex).Lock", "internal/race.Disable", "sync/atomic.CompareAndSwapInt32", "internal/race.Enable", "internal/race.Acquire", "(*internal/sync.Mutex).lockSlow", "internal/sync.runtime_canSpin", "internal/sync.runtime_doSpin", "internal/sync.throw", "internal/sync.runtime_nanotime", "internal/sync.runtime_SemacquireMutex", "sync/atomic.AddInt32", "(*internal/sync.Mutex).Unlock", "internal/race.ReleaseMerge", "(*internal/sync.Mutex).unlockSlow", "internal/sync.fatal", "internal/sync.runtime_Semrelease", "sync/atomic.StoreUint32"], unfollowed := true, recurses := true, plainKeys := false, apart := false, narrowed := true }
def FnContainmentUptoSaid : Prop := fnContainmentUptoRow.holds Tryz.pinned (OpenSpec.upto fnContainmentSpec)

/-- 'laws.FnClassifier', WHERE WHAT IT READS IS OF BULK AT MOST 1048576: true; the input reads as it did. -/
def fnClassifierUptoRow : OpenClaim := { program := "ytadpkiiglobmpaagreat", sum := "120eb7a20ad8d1334c5f5903961843940f26b824df514fa1a78310fb6ff81615", func := "loop.example/g01083/laws.FnClassifier", spec := "fnClassifier", unfollowed := true, recurses := true, plainKeys := false, apart := false, narrowed := true }
def FnClassifierUptoSaid : Prop := fnClassifierUptoRow.holds Tryz.pinned (OpenSpec.upto fnClassifierSpec)

/-- 'laws.FnClosures', WHERE WHAT IT READS IS OF BULK AT MOST 1048576: true; the input reads as it did. -/
def fnClosuresUptoRow : OpenClaim := { program := "ytadpkiiglobmpaagreat", sum := "120eb7a20ad8d1334c5f5903961843940f26b824df514fa1a78310fb6ff81615", func := "loop.example/g01083/laws.FnClosures", spec := "fnClosures", inPlace := ["sync/atomic.AddInt64"], unfollowed := true, recurses := true, plainKeys := false, apart := false, narrowed := true }
def FnClosuresUptoSaid : Prop := fnClosuresUptoRow.holds Tryz.pinned (OpenSpec.upto fnClosuresSpec)

end Rows
end Go.Proofs.YtadpkiiglobmpaaGreat
