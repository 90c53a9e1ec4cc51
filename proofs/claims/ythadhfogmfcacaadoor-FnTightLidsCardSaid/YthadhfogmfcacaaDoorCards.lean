/-
  DERIVED. GIVEN WITH THE SEED: THE CARDS: each row of YthadhfogmfcacaaDoorRows.lean that lists a variable, with what it lists TIED to the program's text (the seventh form; the later family's looks); each row that meets fmt, with fmt's text TOLD by the authors' own Lean function (tested against real Go, not proved from fmt's source: count such statements apart). THE CARD IS WHAT COUNTS. Prove the row's statement (the work); the ties are given (YthadhfogmfcacaaDoorTie.lean); close each card by the builder's one call (the guide's Derived/Test/ToyasCard.lean, 'card_holds'). Laid BY PROGRAM, IN A SANDBOX (cutbox-door.mjs). By AI agents, Wed Nov 11 2026. No macro, syntax, notation, axiom, sorry.
-/
import Derived.Test.YthadhfogmfcacaaDoorRows
import GoSem.ClaimSeven
namespace Go.Proofs.YthadhfogmfcacaaDoor
namespace Rows

/-- THE TIED CARD OF 'laws.FnExactLidText'. -/
def fnExactLidTextCard : Claim7 := { stood := { row := fnExactLidTextRow, standIns := [], harness := (true, "3987e356d695e392881ab485eba87bf4eb925380b8f5784048972f361d69f77c"), looks := false }, kinds := [], alts := [], laidByText := true, laidKinds := [.data, .data, .data], laidTests := true, laidLooks := .later }
def FnExactLidTextCardSaid : Prop := Claim7.holds Tryd.pinned (.plain (OpenSpec.ofChange fnExactLidTextSpec)) fnExactLidTextCard

/-- THE TIED CARD OF 'laws.FnTightLids'. -/
def fnTightLidsCard : Claim7 := { stood := { row := fnTightLidsRow, standIns := [], harness := (true, "3987e356d695e392881ab485eba87bf4eb925380b8f5784048972f361d69f77c"), looks := false }, kinds := [], alts := [], laidByText := true, laidKinds := [.data, .data, .data], laidTests := true, laidLooks := .later }
def FnTightLidsCardSaid : Prop := Claim7.holds Tryd.pinned (.plain (OpenSpec.ofChange fnTightLidsSpec)) fnTightLidsCard

/-- THE SECOND FORM's CARD OF 'laws.FnExactLidText'. -/
def fnExactLidTextUptoCard : Claim7 := { stood := { row := fnExactLidTextUptoRow, standIns := [], harness := (true, "3987e356d695e392881ab485eba87bf4eb925380b8f5784048972f361d69f77c"), looks := false }, kinds := [], alts := [], laidByText := true, laidKinds := [.data, .data, .data], laidTests := true, laidLooks := .later }
def FnExactLidTextUptoCardSaid : Prop := Claim7.holds Tryd.pinned (.plain (OpenSpec.upto fnExactLidTextSpec)) fnExactLidTextUptoCard

/-- THE SECOND FORM's CARD OF 'laws.FnTightLids'. -/
def fnTightLidsUptoCard : Claim7 := { stood := { row := fnTightLidsUptoRow, standIns := [], harness := (true, "3987e356d695e392881ab485eba87bf4eb925380b8f5784048972f361d69f77c"), looks := false }, kinds := [], alts := [], laidByText := true, laidKinds := [.data, .data, .data], laidTests := true, laidLooks := .later }
def FnTightLidsUptoCardSaid : Prop := Claim7.holds Tryd.pinned (.plain (OpenSpec.upto fnTightLidsSpec)) fnTightLidsUptoCard
end Rows
end Go.Proofs.YthadhfogmfcacaaDoor
