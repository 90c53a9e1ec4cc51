/-
  DERIVED. GIVEN WITH THE SEED: THE CARDS: each row of YtmbijgnmbapchaaGreatDoorRows.lean that lists a variable, with what it lists TIED to the program's text (the seventh form; the later family's looks); each row that meets fmt, with fmt's text TOLD by the authors' own Lean function (tested against real Go, not proved from fmt's source: count such statements apart). THE CARD IS WHAT COUNTS. Prove the row's statement (the work); the ties are given (YtmbijgnmbapchaaGreatDoorTie.lean); close each card by the builder's one call (the guide's Derived/Test/ToyasCard.lean, 'card_holds'). Laid BY PROGRAM, IN A SANDBOX (cutbox-door.mjs). By AI agents, Wed Nov 11 2026. No macro, syntax, notation, axiom, sorry.
-/
import Derived.Test.YtmbijgnmbapchaaGreatDoorRows
import GoSem.ClaimSeven
namespace Go.Proofs.YtmbijgnmbapchaaGreatDoor
namespace Rows

/-- THE TIED CARD OF 'laws.FnBaskets'. -/
def fnBasketsCard : Claim7 := { stood := { row := fnBasketsRow, standIns := [], harness := (true, "10e720fe61af5f1c542e64621a310e16fb0c553425a473b80901386763e875f5"), looks := false }, kinds := [], alts := [], laidByText := true, laidKinds := [.data, .data, .data, .data, .pinned], laidTests := true, laidLooks := .later }
def FnBasketsCardSaid : Prop := Claim7.holds Tryz.pinned (.plain (OpenSpec.ofChange fnBasketsSpec)) fnBasketsCard

/-- THE SECOND FORM's CARD OF 'laws.FnBaskets'. -/
def fnBasketsUptoCard : Claim7 := { stood := { row := fnBasketsUptoRow, standIns := [], harness := (true, "10e720fe61af5f1c542e64621a310e16fb0c553425a473b80901386763e875f5"), looks := false }, kinds := [], alts := [], laidByText := true, laidKinds := [.data, .data, .data, .data, .pinned], laidTests := true, laidLooks := .later }
def FnBasketsUptoCardSaid : Prop := Claim7.holds Tryz.pinned (.plain (OpenSpec.upto fnBasketsSpec)) fnBasketsUptoCard
end Rows
end Go.Proofs.YtmbijgnmbapchaaGreatDoor
