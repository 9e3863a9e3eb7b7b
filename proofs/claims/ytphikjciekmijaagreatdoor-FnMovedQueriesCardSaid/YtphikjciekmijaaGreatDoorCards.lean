/-
  DERIVED. GIVEN WITH THE SEED: THE CARDS: each row of YtphikjciekmijaaGreatDoorRows.lean that lists a variable, with what it lists TIED to the program's text (the seventh form; the later family's looks); each row that meets fmt, with fmt's text TOLD by the authors' own Lean function (tested against real Go, not proved from fmt's source: count such statements apart). THE CARD IS WHAT COUNTS. Prove the row's statement (the work); the ties are given (YtphikjciekmijaaGreatDoorTie.lean); close each card by the builder's one call (the guide's Derived/Test/ToyasCard.lean, 'card_holds'). Laid BY PROGRAM, IN A SANDBOX (cutbox-door.mjs). By AI agents, Wed Nov 11 2026. No macro, syntax, notation, axiom, sorry.
-/
import Derived.Test.YtphikjciekmijaaGreatDoorRows
import GoSem.ClaimSeven
namespace Go.Proofs.YtphikjciekmijaaGreatDoor
namespace Rows

/-- THE TIED CARD OF 'laws.FnMovedQueries'. -/
def fnMovedQueriesCard : Claim7 := { stood := { row := fnMovedQueriesRow, standIns := [], harness := (true, "08d0ffe21202eee885f30a1e9f1d6a592faf22f23a6916295f7c98a339fabd4a"), looks := false }, kinds := [], alts := [], laidByText := true, laidKinds := [.data, .data, .data], laidTests := true, laidLooks := .later }
def FnMovedQueriesCardSaid : Prop := Claim7.holds Tryz.pinned (.plain (OpenSpec.ofChange fnMovedQueriesSpec)) fnMovedQueriesCard

/-- THE SECOND FORM's CARD OF 'laws.FnMovedQueries'. -/
def fnMovedQueriesUptoCard : Claim7 := { stood := { row := fnMovedQueriesUptoRow, standIns := [], harness := (true, "08d0ffe21202eee885f30a1e9f1d6a592faf22f23a6916295f7c98a339fabd4a"), looks := false }, kinds := [], alts := [], laidByText := true, laidKinds := [.data, .data, .data], laidTests := true, laidLooks := .later }
def FnMovedQueriesUptoCardSaid : Prop := Claim7.holds Tryz.pinned (.plain (OpenSpec.upto fnMovedQueriesSpec)) fnMovedQueriesUptoCard
end Rows
end Go.Proofs.YtphikjciekmijaaGreatDoor
