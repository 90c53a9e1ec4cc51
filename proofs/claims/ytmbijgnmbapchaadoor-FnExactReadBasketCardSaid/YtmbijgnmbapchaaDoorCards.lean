/-
  DERIVED. GIVEN WITH THE SEED: THE CARDS: each row of YtmbijgnmbapchaaDoorRows.lean that lists a variable, with what it lists TIED to the program's text (the seventh form; the later family's looks); each row that meets fmt, with fmt's text TOLD by the authors' own Lean function (tested against real Go, not proved from fmt's source: count such statements apart). THE CARD IS WHAT COUNTS. Prove the row's statement (the work); the ties are given (YtmbijgnmbapchaaDoorTie.lean); close each card by the builder's one call (the guide's Derived/Test/ToyasCard.lean, 'card_holds'). Laid BY PROGRAM, IN A SANDBOX (cutbox-door.mjs). By AI agents, Wed Nov 11 2026. No macro, syntax, notation, axiom, sorry.
-/
import Derived.Test.YtmbijgnmbapchaaDoorRows
import GoSem.ClaimSeven
namespace Go.Proofs.YtmbijgnmbapchaaDoor
namespace Rows

/-- THE TIED CARD OF 'laws.FnExactBasketText'. -/
def fnExactBasketTextCard : Claim7 := { stood := { row := fnExactBasketTextRow, standIns := [], harness := (true, "68bcc4c865424b8343f4614056183390edf6139d20cb2c7cc7fdeafc599d8833"), looks := false }, kinds := [], alts := [], laidByText := true, laidKinds := [.data, .data, .data, .data, .pinned], laidTests := true, laidLooks := .later }
def FnExactBasketTextCardSaid : Prop := Claim7.holds Tryd.pinned (.plain (OpenSpec.ofChange fnExactBasketTextSpec)) fnExactBasketTextCard

/-- THE TIED CARD OF 'laws.FnExactUnsoundLayers'. -/
def fnExactUnsoundLayersCard : Claim7 := { stood := { row := fnExactUnsoundLayersRow, standIns := [], harness := (true, "68bcc4c865424b8343f4614056183390edf6139d20cb2c7cc7fdeafc599d8833"), looks := false }, kinds := [], alts := [], laidByText := true, laidKinds := [.data, .pinned], laidTests := true, laidLooks := .later }
def FnExactUnsoundLayersCardSaid : Prop := Claim7.holds Tryd.pinned (.plain (OpenSpec.ofChange fnExactUnsoundLayersSpec)) fnExactUnsoundLayersCard

/-- THE TIED CARD OF 'laws.FnExactReadBasket'. -/
def fnExactReadBasketCard : Claim7 := { stood := { row := fnExactReadBasketRow, standIns := [], harness := (true, "68bcc4c865424b8343f4614056183390edf6139d20cb2c7cc7fdeafc599d8833"), looks := false }, kinds := [], alts := [], laidByText := true, laidKinds := [.data, .data, .data, .data, .pinned], laidTests := true, laidLooks := .later }
def FnExactReadBasketCardSaid : Prop := Claim7.holds Tryd.pinned (.plain (OpenSpec.ofChange fnExactReadBasketSpec)) fnExactReadBasketCard

/-- THE TIED CARD OF 'laws.FnLayers'. -/
def fnLayersCard : Claim7 := { stood := { row := fnLayersRow, standIns := [], harness := (true, "68bcc4c865424b8343f4614056183390edf6139d20cb2c7cc7fdeafc599d8833"), looks := false }, kinds := [], alts := [], laidByText := true, laidKinds := [.data, .pinned], laidTests := true, laidLooks := .later }
def FnLayersCardSaid : Prop := Claim7.holds Tryd.pinned (.plain (OpenSpec.ofChange fnLayersSpec)) fnLayersCard

/-- THE TIED CARD OF 'laws.FnTop'. -/
def fnTopCard : Claim7 := { stood := { row := fnTopRow, standIns := [], harness := (true, "68bcc4c865424b8343f4614056183390edf6139d20cb2c7cc7fdeafc599d8833"), looks := false }, kinds := [], alts := [], laidByText := true, laidKinds := [.data, .pinned], laidTests := true, laidLooks := .later }
def FnTopCardSaid : Prop := Claim7.holds Tryd.pinned (.plain (OpenSpec.ofChange fnTopSpec)) fnTopCard

/-- THE SECOND FORM's CARD OF 'laws.FnExactBasketText'. -/
def fnExactBasketTextUptoCard : Claim7 := { stood := { row := fnExactBasketTextUptoRow, standIns := [], harness := (true, "68bcc4c865424b8343f4614056183390edf6139d20cb2c7cc7fdeafc599d8833"), looks := false }, kinds := [], alts := [], laidByText := true, laidKinds := [.data, .data, .data, .data, .pinned], laidTests := true, laidLooks := .later }
def FnExactBasketTextUptoCardSaid : Prop := Claim7.holds Tryd.pinned (.plain (OpenSpec.upto fnExactBasketTextSpec)) fnExactBasketTextUptoCard

/-- THE SECOND FORM's CARD OF 'laws.FnExactUnsoundLayers'. -/
def fnExactUnsoundLayersUptoCard : Claim7 := { stood := { row := fnExactUnsoundLayersUptoRow, standIns := [], harness := (true, "68bcc4c865424b8343f4614056183390edf6139d20cb2c7cc7fdeafc599d8833"), looks := false }, kinds := [], alts := [], laidByText := true, laidKinds := [.data, .pinned], laidTests := true, laidLooks := .later }
def FnExactUnsoundLayersUptoCardSaid : Prop := Claim7.holds Tryd.pinned (.plain (OpenSpec.upto fnExactUnsoundLayersSpec)) fnExactUnsoundLayersUptoCard

/-- THE SECOND FORM's CARD OF 'laws.FnExactReadBasket'. -/
def fnExactReadBasketUptoCard : Claim7 := { stood := { row := fnExactReadBasketUptoRow, standIns := [], harness := (true, "68bcc4c865424b8343f4614056183390edf6139d20cb2c7cc7fdeafc599d8833"), looks := false }, kinds := [], alts := [], laidByText := true, laidKinds := [.data, .data, .data, .data, .pinned], laidTests := true, laidLooks := .later }
def FnExactReadBasketUptoCardSaid : Prop := Claim7.holds Tryd.pinned (.plain (OpenSpec.upto fnExactReadBasketSpec)) fnExactReadBasketUptoCard

/-- THE SECOND FORM's CARD OF 'laws.FnLayers'. -/
def fnLayersUptoCard : Claim7 := { stood := { row := fnLayersUptoRow, standIns := [], harness := (true, "68bcc4c865424b8343f4614056183390edf6139d20cb2c7cc7fdeafc599d8833"), looks := false }, kinds := [], alts := [], laidByText := true, laidKinds := [.data, .pinned], laidTests := true, laidLooks := .later }
def FnLayersUptoCardSaid : Prop := Claim7.holds Tryd.pinned (.plain (OpenSpec.upto fnLayersSpec)) fnLayersUptoCard

/-- THE SECOND FORM's CARD OF 'laws.FnTop'. -/
def fnTopUptoCard : Claim7 := { stood := { row := fnTopUptoRow, standIns := [], harness := (true, "68bcc4c865424b8343f4614056183390edf6139d20cb2c7cc7fdeafc599d8833"), looks := false }, kinds := [], alts := [], laidByText := true, laidKinds := [.data, .pinned], laidTests := true, laidLooks := .later }
def FnTopUptoCardSaid : Prop := Claim7.holds Tryd.pinned (.plain (OpenSpec.upto fnTopSpec)) fnTopUptoCard
end Rows
end Go.Proofs.YtmbijgnmbapchaaDoor
