/-
  No cell of these rows narrows 'for every input' (looked for: loops, veiled, ifaces, maps, wideKeys, modest, calm, conditions, laid).
  DERIVED. THE GIVEN ROWS OF THIS SEAT. 4 by the template 'for every input the law returns true; each argument reads behind the call as it read before'; 0 by the template 'total and deterministic' (their statements: YtphikjciekmijaaGreatTotals.lean).
  GIVEN WITH THE SEED: the statements are not yours to turn. If you find one false, say at which input.
  Laid BY PROGRAM, IN A SANDBOX (cutbox-rows.mjs): the forced cells as the released guide's own fill.sh prints them over the translation 57111dde00515f97… (all of the seat's roots in one cut). By AI agents, Wed Nov 11 2026. No macro, syntax, notation, axiom, sorry.
-/
import Derived.Test.YtphikjciekmijaaGreatChecked
import GoSem.Claim
import GoSem.ClaimJoined
import GoSem.ClaimMapViews
import Derived.JoinedTies
import Derived.KernelRfl
namespace Go.Proofs.YtphikjciekmijaaGreat
/- THE CELL 'sum', in the pinned program and in every row, IS THE sha256 OF THE DUMP (.gsa) THAT YtphikjciekmijaaGreatProg.lean LOADS. Nothing in Lean hashes anything: it is a label: what it is worth is what the hold of that sum in a sandbox is worth. -/
noncomputable def Tryz.pinned : Pinned := { name := "ytphikjciekmijaagreat", sum := "57111dde00515f975732e905eacc1f9374ed0670c0cf705f7504a0581d19077b", checked := Tryz.checked }
namespace Rows
def none {H : Type} : Left H := { results := [], args := [] }

/-- 'laws.FnMapsEnds': WHATEVER THE INPUT: true; the input reads as it did. -/
def fnMapsEndsSpec : ChangeSpec := { name := "fnMapsEnds", fn := fun _ => fun
  | [d] => { results := [.lit (.bool true)], args := [d] }
  | _ => none }
def fnMapsEndsRow : OpenClaim := { program := "ytphikjciekmijaagreat", sum := "57111dde00515f975732e905eacc1f9374ed0670c0cf705f7504a0581d19077b", func := "loop.example/g01083/laws.FnMapsEnds", spec := "fnMapsEnds", unfollowed := true, recurses := true, apart := false }
def FnMapsEndsSaid : Prop := fnMapsEndsRow.holds Tryz.pinned (OpenSpec.ofChange fnMapsEndsSpec)

/-- ITS FALSE NEIGHBOUR: 'it returns false'. Refute it at one input. -/
def fnMapsEndsWrong : ChangeSpec := { name := "fnMapsEnds", fn := fun _ => fun
  | [d] => { results := [.lit (.bool false)], args := [d] }
  | _ => none }
def FnMapsEndsWrongFalsely : Prop := fnMapsEndsRow.holds Tryz.pinned (OpenSpec.ofChange fnMapsEndsWrong)

/-- 'laws.FnDayUnits': WHATEVER THE INPUT: true; the input reads as it did. -/
def fnDayUnitsSpec : ChangeSpec := { name := "fnDayUnits", fn := fun _ => fun
  | [d] => { results := [.lit (.bool true)], args := [d] }
  | _ => none }
def fnDayUnitsRow : OpenClaim := { program := "ytphikjciekmijaagreat", sum := "57111dde00515f975732e905eacc1f9374ed0670c0cf705f7504a0581d19077b", func := "loop.example/g01083/laws.FnDayUnits", spec := "fnDayUnits", inPlace := ["sync/atomic.LoadUint32", "(*internal/sync.Mutex).Lock", "internal/race.Disable", "sync/atomic.CompareAndSwapInt32", "internal/race.Enable", "internal/race.Acquire", "(*internal/sync.Mutex).lockSlow", "internal/sync.runtime_canSpin", "internal/sync.runtime_doSpin", "internal/sync.throw", "internal/sync.runtime_nanotime", "internal/sync.runtime_SemacquireMutex", "sync/atomic.AddInt32", "(*internal/sync.Mutex).Unlock", "internal/race.ReleaseMerge", "(*internal/sync.Mutex).unlockSlow", "internal/sync.fatal", "internal/sync.runtime_Semrelease", "sync/atomic.StoreUint32"], unfollowed := true, recurses := true, apart := false }
def FnDayUnitsSaid : Prop := fnDayUnitsRow.holds Tryz.pinned (OpenSpec.ofChange fnDayUnitsSpec)

/-- ITS FALSE NEIGHBOUR: 'it returns false'. Refute it at one input. -/
def fnDayUnitsWrong : ChangeSpec := { name := "fnDayUnits", fn := fun _ => fun
  | [d] => { results := [.lit (.bool false)], args := [d] }
  | _ => none }
def FnDayUnitsWrongFalsely : Prop := fnDayUnitsRow.holds Tryz.pinned (OpenSpec.ofChange fnDayUnitsWrong)

/-- 'laws.FnCollages': WHATEVER THE INPUT: true; the input reads as it did. -/
def fnCollagesSpec : ChangeSpec := { name := "fnCollages", fn := fun _ => fun
  | [d] => { results := [.lit (.bool true)], args := [d] }
  | _ => none }
def fnCollagesRow : OpenClaim := { program := "ytphikjciekmijaagreat", sum := "57111dde00515f975732e905eacc1f9374ed0670c0cf705f7504a0581d19077b", func := "loop.example/g01083/laws.FnCollages", spec := "fnCollages", unfollowed := true, recurses := true, apart := false }
def FnCollagesSaid : Prop := fnCollagesRow.holds Tryz.pinned (OpenSpec.ofChange fnCollagesSpec)

/-- ITS FALSE NEIGHBOUR: 'it returns false'. Refute it at one input. -/
def fnCollagesWrong : ChangeSpec := { name := "fnCollages", fn := fun _ => fun
  | [d] => { results := [.lit (.bool false)], args := [d] }
  | _ => none }
def FnCollagesWrongFalsely : Prop := fnCollagesRow.holds Tryz.pinned (OpenSpec.ofChange fnCollagesWrong)

/-- 'laws.FnRightKan': WHATEVER THE INPUT: true; the input reads as it did. -/
def fnRightKanSpec : ChangeSpec := { name := "fnRightKan", fn := fun _ => fun
  | [d] => { results := [.lit (.bool true)], args := [d] }
  | _ => none }
def fnRightKanRow : OpenClaim := { program := "ytphikjciekmijaagreat", sum := "57111dde00515f975732e905eacc1f9374ed0670c0cf705f7504a0581d19077b", func := "loop.example/g01083/laws.FnRightKan", spec := "fnRightKan", unfollowed := true, recurses := true, apart := false }
def FnRightKanSaid : Prop := fnRightKanRow.holds Tryz.pinned (OpenSpec.ofChange fnRightKanSpec)

/-- ITS FALSE NEIGHBOUR: 'it returns false'. Refute it at one input. -/
def fnRightKanWrong : ChangeSpec := { name := "fnRightKan", fn := fun _ => fun
  | [d] => { results := [.lit (.bool false)], args := [d] }
  | _ => none }
def FnRightKanWrongFalsely : Prop := fnRightKanRow.holds Tryz.pinned (OpenSpec.ofChange fnRightKanWrong)

/- THE SECOND FORM. 'bulk': how many values and letters a reading holds, each counted each time it is reached (what is shared counts as often as it is met; a slice's spare places count too). A statement '..UptoSaid' is the law's where the arguments, and the package variables that the reading takes, are together of bulk at most 1048576: NARROWER than '..Said'. Prove '..Said' where nothing that the law and all that it calls make is longer than what came in: it says more and counts as full. Else prove '..UptoSaid'. A law counts once. -/
mutual
def uptoBulk {H : Type} : DataW H → Nat
  | .lit (.string bytes) => bytes.length + 1
  | .lit _ => 1
  | .nil => 1
  | .ptr d => uptoBulk d + 1
  | .slice elems spare => uptoBulkAll elems + uptoBulkAll spare + 1
  | .agg parts => uptoBulkAll parts + 1
  | .iface _ d => uptoBulk d + 1
  | .map entries => uptoBulkEntries entries + 1
  | .held _ => 1
def uptoBulkAll {H : Type} : List (DataW H) → Nat
  | [] => 0
  | d :: r => uptoBulk d + uptoBulkAll r
def uptoBulkEntries {H : Type} : List (Lit × DataW H) → Nat
  | [] => 0
  | x :: r => uptoBulkEntry x + uptoBulkEntries r
def uptoBulkEntry {H : Type} : Lit × DataW H → Nat
  | (.string bytes, d) => bytes.length + uptoBulk d + 1
  | (_, d) => uptoBulk d + 1
 end
def uptoSmall : (H : Type) → List (DataW H) → Bool := fun _ ds => decide (uptoBulkAll ds ≤ 1048576)
def OpenSpec.upto (s : _root_.Go.ChangeSpec) : _root_.Go.OpenSpec := { _root_.Go.OpenSpec.ofChange s with cond := some uptoSmall }

/-- 'laws.FnMapsEnds', WHERE WHAT IT READS IS OF BULK AT MOST 1048576: true; the input reads as it did. -/
def fnMapsEndsUptoRow : OpenClaim := { program := "ytphikjciekmijaagreat", sum := "57111dde00515f975732e905eacc1f9374ed0670c0cf705f7504a0581d19077b", func := "loop.example/g01083/laws.FnMapsEnds", spec := "fnMapsEnds", unfollowed := true, recurses := true, apart := false, narrowed := true }
def FnMapsEndsUptoSaid : Prop := fnMapsEndsUptoRow.holds Tryz.pinned (OpenSpec.upto fnMapsEndsSpec)

/-- 'laws.FnDayUnits', WHERE WHAT IT READS IS OF BULK AT MOST 1048576: true; the input reads as it did. -/
def fnDayUnitsUptoRow : OpenClaim := { program := "ytphikjciekmijaagreat", sum := "57111dde00515f975732e905eacc1f9374ed0670c0cf705f7504a0581d19077b", func := "loop.example/g01083/laws.FnDayUnits", spec := "fnDayUnits", inPlace := ["sync/atomic.LoadUint32", "(*internal/sync.Mutex).Lock", "internal/race.Disable", "sync/atomic.CompareAndSwapInt32", "internal/race.Enable", "internal/race.Acquire", "(*internal/sync.Mutex).lockSlow", "internal/sync.runtime_canSpin", "internal/sync.runtime_doSpin", "internal/sync.throw", "internal/sync.runtime_nanotime", "internal/sync.runtime_SemacquireMutex", "sync/atomic.AddInt32", "(*internal/sync.Mutex).Unlock", "internal/race.ReleaseMerge", "(*internal/sync.Mutex).unlockSlow", "internal/sync.fatal", "internal/sync.runtime_Semrelease", "sync/atomic.StoreUint32"], unfollowed := true, recurses := true, apart := false, narrowed := true }
def FnDayUnitsUptoSaid : Prop := fnDayUnitsUptoRow.holds Tryz.pinned (OpenSpec.upto fnDayUnitsSpec)

/-- 'laws.FnCollages', WHERE WHAT IT READS IS OF BULK AT MOST 1048576: true; the input reads as it did. -/
def fnCollagesUptoRow : OpenClaim := { program := "ytphikjciekmijaagreat", sum := "57111dde00515f975732e905eacc1f9374ed0670c0cf705f7504a0581d19077b", func := "loop.example/g01083/laws.FnCollages", spec := "fnCollages", unfollowed := true, recurses := true, apart := false, narrowed := true }
def FnCollagesUptoSaid : Prop := fnCollagesUptoRow.holds Tryz.pinned (OpenSpec.upto fnCollagesSpec)

/-- 'laws.FnRightKan', WHERE WHAT IT READS IS OF BULK AT MOST 1048576: true; the input reads as it did. -/
def fnRightKanUptoRow : OpenClaim := { program := "ytphikjciekmijaagreat", sum := "57111dde00515f975732e905eacc1f9374ed0670c0cf705f7504a0581d19077b", func := "loop.example/g01083/laws.FnRightKan", spec := "fnRightKan", unfollowed := true, recurses := true, apart := false, narrowed := true }
def FnRightKanUptoSaid : Prop := fnRightKanUptoRow.holds Tryz.pinned (OpenSpec.upto fnRightKanSpec)

end Rows
end Go.Proofs.YtphikjciekmijaaGreat
