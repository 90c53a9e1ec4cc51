/-
  No cell of these rows narrows 'for every input' (looked for: loops, veiled, ifaces, maps, wideKeys, modest, calm, conditions, laid).
  DERIVED. THE GIVEN ROWS OF THIS SEAT. 11 by the template 'for every input the law returns true; each argument reads behind the call as it read before'; 0 by the template 'total and deterministic' (their statements: YtnipgigpjhalkaaTotals.lean).
  GIVEN WITH THE SEED: the statements are not yours to turn. If you find one false, say at which input.
  Laid BY PROGRAM, IN A SANDBOX (cutbox-rows.mjs): the forced cells as the released guide's own fill.sh prints them over the translation f7de7641c51f967a… (all of the seat's roots in one cut). By AI agents, Wed Nov 11 2026. No macro, syntax, notation, axiom, sorry.
-/
import Derived.Test.YtnipgigpjhalkaaChecked
import GoSem.Claim
import GoSem.ClaimJoined
import GoSem.ClaimMapViews
import Derived.JoinedTies
import Derived.KernelRfl
namespace Go.Proofs.Ytnipgigpjhalkaa
/- THE CELL 'sum', in the pinned program and in every row, IS THE sha256 OF THE DUMP (.gsa) THAT YtnipgigpjhalkaaProg.lean LOADS. Nothing in Lean hashes anything: it is a label: what it is worth is what the hold of that sum in a sandbox is worth. -/
noncomputable def Try.pinned : Pinned := { name := "ytnipgigpjhalkaa", sum := "f7de7641c51f967a6fad543b374cb338d26ec054c8e2ab0be5943b58f3785637", checked := Try.checked }
namespace Rows
def none {H : Type} : Left H := { results := [], args := [] }

/-- 'laws.FnExactFitsIn': WHATEVER THE INPUT: true; the input reads as it did. -/
def fnExactFitsInSpec : ChangeSpec := { name := "fnExactFitsIn", fn := fun _ => fun
  | [d1, d2] => { results := [.lit (.bool true)], args := [d1, d2] }
  | _ => none }
def fnExactFitsInRow : OpenClaim := { program := "ytnipgigpjhalkaa", sum := "f7de7641c51f967a6fad543b374cb338d26ec054c8e2ab0be5943b58f3785637", func := "loop.example/g01064/laws.FnExactFitsIn", spec := "fnExactFitsIn", apart := false }
def FnExactFitsInSaid : Prop := fnExactFitsInRow.holds Try.pinned (OpenSpec.ofChange fnExactFitsInSpec)

/-- ITS FALSE NEIGHBOUR: 'it returns false'. Refute it at one input. -/
def fnExactFitsInWrong : ChangeSpec := { name := "fnExactFitsIn", fn := fun _ => fun
  | [d1, d2] => { results := [.lit (.bool false)], args := [d1, d2] }
  | _ => none }
def FnExactFitsInWrongFalsely : Prop := fnExactFitsInRow.holds Try.pinned (OpenSpec.ofChange fnExactFitsInWrong)

/-- 'laws.FnExactDeepIn': WHATEVER THE INPUT: true; the input reads as it did. -/
def fnExactDeepInSpec : ChangeSpec := { name := "fnExactDeepIn", fn := fun _ => fun
  | [d1, d2] => { results := [.lit (.bool true)], args := [d1, d2] }
  | _ => none }
def fnExactDeepInRow : OpenClaim := { program := "ytnipgigpjhalkaa", sum := "f7de7641c51f967a6fad543b374cb338d26ec054c8e2ab0be5943b58f3785637", func := "loop.example/g01064/laws.FnExactDeepIn", spec := "fnExactDeepIn", apart := false }
def FnExactDeepInSaid : Prop := fnExactDeepInRow.holds Try.pinned (OpenSpec.ofChange fnExactDeepInSpec)

/-- ITS FALSE NEIGHBOUR: 'it returns false'. Refute it at one input. -/
def fnExactDeepInWrong : ChangeSpec := { name := "fnExactDeepIn", fn := fun _ => fun
  | [d1, d2] => { results := [.lit (.bool false)], args := [d1, d2] }
  | _ => none }
def FnExactDeepInWrongFalsely : Prop := fnExactDeepInRow.holds Try.pinned (OpenSpec.ofChange fnExactDeepInWrong)

/-- 'laws.FnExactValidPots': WHATEVER THE INPUT: true; the input reads as it did. -/
def fnExactValidPotsSpec : ChangeSpec := { name := "fnExactValidPots", fn := fun _ => fun
  | [d] => { results := [.lit (.bool true)], args := [d] }
  | _ => none }
def fnExactValidPotsRow : OpenClaim := { program := "ytnipgigpjhalkaa", sum := "f7de7641c51f967a6fad543b374cb338d26ec054c8e2ab0be5943b58f3785637", func := "loop.example/g01064/laws.FnExactValidPots", spec := "fnExactValidPots", apart := false }
def FnExactValidPotsSaid : Prop := fnExactValidPotsRow.holds Try.pinned (OpenSpec.ofChange fnExactValidPotsSpec)

/-- ITS FALSE NEIGHBOUR: 'it returns false'. Refute it at one input. -/
def fnExactValidPotsWrong : ChangeSpec := { name := "fnExactValidPots", fn := fun _ => fun
  | [d] => { results := [.lit (.bool false)], args := [d] }
  | _ => none }
def FnExactValidPotsWrongFalsely : Prop := fnExactValidPotsRow.holds Try.pinned (OpenSpec.ofChange fnExactValidPotsWrong)

/-- 'laws.FnExactLonelyPots': WHATEVER THE INPUT: true; the input reads as it did. -/
def fnExactLonelyPotsSpec : ChangeSpec := { name := "fnExactLonelyPots", fn := fun _ => fun
  | [d] => { results := [.lit (.bool true)], args := [d] }
  | _ => none }
def fnExactLonelyPotsRow : OpenClaim := { program := "ytnipgigpjhalkaa", sum := "f7de7641c51f967a6fad543b374cb338d26ec054c8e2ab0be5943b58f3785637", func := "loop.example/g01064/laws.FnExactLonelyPots", spec := "fnExactLonelyPots", apart := false }
def FnExactLonelyPotsSaid : Prop := fnExactLonelyPotsRow.holds Try.pinned (OpenSpec.ofChange fnExactLonelyPotsSpec)

/-- ITS FALSE NEIGHBOUR: 'it returns false'. Refute it at one input. -/
def fnExactLonelyPotsWrong : ChangeSpec := { name := "fnExactLonelyPots", fn := fun _ => fun
  | [d] => { results := [.lit (.bool false)], args := [d] }
  | _ => none }
def FnExactLonelyPotsWrongFalsely : Prop := fnExactLonelyPotsRow.holds Try.pinned (OpenSpec.ofChange fnExactLonelyPotsWrong)

/-- 'laws.FnExactFewestPiles': WHATEVER THE INPUT: true; the input reads as it did. -/
def fnExactFewestPilesSpec : ChangeSpec := { name := "fnExactFewestPiles", fn := fun _ => fun
  | [d] => { results := [.lit (.bool true)], args := [d] }
  | _ => none }
def fnExactFewestPilesRow : OpenClaim := { program := "ytnipgigpjhalkaa", sum := "f7de7641c51f967a6fad543b374cb338d26ec054c8e2ab0be5943b58f3785637", func := "loop.example/g01064/laws.FnExactFewestPiles", spec := "fnExactFewestPiles", unfollowed := true, recurses := true, apart := false }
def FnExactFewestPilesSaid : Prop := fnExactFewestPilesRow.holds Try.pinned (OpenSpec.ofChange fnExactFewestPilesSpec)

/-- ITS FALSE NEIGHBOUR: 'it returns false'. Refute it at one input. -/
def fnExactFewestPilesWrong : ChangeSpec := { name := "fnExactFewestPiles", fn := fun _ => fun
  | [d] => { results := [.lit (.bool false)], args := [d] }
  | _ => none }
def FnExactFewestPilesWrongFalsely : Prop := fnExactFewestPilesRow.holds Try.pinned (OpenSpec.ofChange fnExactFewestPilesWrong)

/-- 'laws.FnExactHeightOfPile': WHATEVER THE INPUT: true; the input reads as it did. -/
def fnExactHeightOfPileSpec : ChangeSpec := { name := "fnExactHeightOfPile", fn := fun _ => fun
  | [d1, d2] => { results := [.lit (.bool true)], args := [d1, d2] }
  | _ => none }
def fnExactHeightOfPileRow : OpenClaim := { program := "ytnipgigpjhalkaa", sum := "f7de7641c51f967a6fad543b374cb338d26ec054c8e2ab0be5943b58f3785637", func := "loop.example/g01064/laws.FnExactHeightOfPile", spec := "fnExactHeightOfPile", apart := false }
def FnExactHeightOfPileSaid : Prop := fnExactHeightOfPileRow.holds Try.pinned (OpenSpec.ofChange fnExactHeightOfPileSpec)

/-- ITS FALSE NEIGHBOUR: 'it returns false'. Refute it at one input. -/
def fnExactHeightOfPileWrong : ChangeSpec := { name := "fnExactHeightOfPile", fn := fun _ => fun
  | [d1, d2] => { results := [.lit (.bool false)], args := [d1, d2] }
  | _ => none }
def FnExactHeightOfPileWrongFalsely : Prop := fnExactHeightOfPileRow.holds Try.pinned (OpenSpec.ofChange fnExactHeightOfPileWrong)

/-- 'laws.FnExactLongestNest': WHATEVER THE INPUT: true; the input reads as it did. -/
def fnExactLongestNestSpec : ChangeSpec := { name := "fnExactLongestNest", fn := fun _ => fun
  | [d] => { results := [.lit (.bool true)], args := [d] }
  | _ => none }
def fnExactLongestNestRow : OpenClaim := { program := "ytnipgigpjhalkaa", sum := "f7de7641c51f967a6fad543b374cb338d26ec054c8e2ab0be5943b58f3785637", func := "loop.example/g01064/laws.FnExactLongestNest", spec := "fnExactLongestNest", recurses := true, apart := false }
def FnExactLongestNestSaid : Prop := fnExactLongestNestRow.holds Try.pinned (OpenSpec.ofChange fnExactLongestNestSpec)

/-- ITS FALSE NEIGHBOUR: 'it returns false'. Refute it at one input. -/
def fnExactLongestNestWrong : ChangeSpec := { name := "fnExactLongestNest", fn := fun _ => fun
  | [d] => { results := [.lit (.bool false)], args := [d] }
  | _ => none }
def FnExactLongestNestWrongFalsely : Prop := fnExactLongestNestRow.holds Try.pinned (OpenSpec.ofChange fnExactLongestNestWrong)

/-- 'laws.FnExactFloorFor': WHATEVER THE INPUT: true; the input reads as it did. -/
def fnExactFloorForSpec : ChangeSpec := { name := "fnExactFloorFor", fn := fun _ => fun
  | [d1, d2] => { results := [.lit (.bool true)], args := [d1, d2] }
  | _ => none }
def fnExactFloorForRow : OpenClaim := { program := "ytnipgigpjhalkaa", sum := "f7de7641c51f967a6fad543b374cb338d26ec054c8e2ab0be5943b58f3785637", func := "loop.example/g01064/laws.FnExactFloorFor", spec := "fnExactFloorFor", apart := false }
def FnExactFloorForSaid : Prop := fnExactFloorForRow.holds Try.pinned (OpenSpec.ofChange fnExactFloorForSpec)

/-- ITS FALSE NEIGHBOUR: 'it returns false'. Refute it at one input. -/
def fnExactFloorForWrong : ChangeSpec := { name := "fnExactFloorFor", fn := fun _ => fun
  | [d1, d2] => { results := [.lit (.bool false)], args := [d1, d2] }
  | _ => none }
def FnExactFloorForWrongFalsely : Prop := fnExactFloorForRow.holds Try.pinned (OpenSpec.ofChange fnExactFloorForWrong)

/-- 'laws.FnExactPilesOf': WHATEVER THE INPUT: true; the input reads as it did. -/
def fnExactPilesOfSpec : ChangeSpec := { name := "fnExactPilesOf", fn := fun _ => fun
  | [d] => { results := [.lit (.bool true)], args := [d] }
  | _ => none }
def fnExactPilesOfRow : OpenClaim := { program := "ytnipgigpjhalkaa", sum := "f7de7641c51f967a6fad543b374cb338d26ec054c8e2ab0be5943b58f3785637", func := "loop.example/g01064/laws.FnExactPilesOf", spec := "fnExactPilesOf", unfollowed := true, recurses := true, apart := false }
def FnExactPilesOfSaid : Prop := fnExactPilesOfRow.holds Try.pinned (OpenSpec.ofChange fnExactPilesOfSpec)

/-- ITS FALSE NEIGHBOUR: 'it returns false'. Refute it at one input. -/
def fnExactPilesOfWrong : ChangeSpec := { name := "fnExactPilesOf", fn := fun _ => fun
  | [d] => { results := [.lit (.bool false)], args := [d] }
  | _ => none }
def FnExactPilesOfWrongFalsely : Prop := fnExactPilesOfRow.holds Try.pinned (OpenSpec.ofChange fnExactPilesOfWrong)

/-- 'laws.FnPiles': WHATEVER THE INPUT: true; the input reads as it did. -/
def fnPilesSpec : ChangeSpec := { name := "fnPiles", fn := fun _ => fun
  | [d] => { results := [.lit (.bool true)], args := [d] }
  | _ => none }
def fnPilesRow : OpenClaim := { program := "ytnipgigpjhalkaa", sum := "f7de7641c51f967a6fad543b374cb338d26ec054c8e2ab0be5943b58f3785637", func := "loop.example/g01064/laws.FnPiles", spec := "fnPiles", apart := false }
def FnPilesSaid : Prop := fnPilesRow.holds Try.pinned (OpenSpec.ofChange fnPilesSpec)

/-- ITS FALSE NEIGHBOUR: 'it returns false'. Refute it at one input. -/
def fnPilesWrong : ChangeSpec := { name := "fnPiles", fn := fun _ => fun
  | [d] => { results := [.lit (.bool false)], args := [d] }
  | _ => none }
def FnPilesWrongFalsely : Prop := fnPilesRow.holds Try.pinned (OpenSpec.ofChange fnPilesWrong)

/-- 'laws.FnNests': WHATEVER THE INPUT: true; the input reads as it did. -/
def fnNestsSpec : ChangeSpec := { name := "fnNests", fn := fun _ => fun
  | [d] => { results := [.lit (.bool true)], args := [d] }
  | _ => none }
def fnNestsRow : OpenClaim := { program := "ytnipgigpjhalkaa", sum := "f7de7641c51f967a6fad543b374cb338d26ec054c8e2ab0be5943b58f3785637", func := "loop.example/g01064/laws.FnNests", spec := "fnNests", unfollowed := true, recurses := true, apart := false }
def FnNestsSaid : Prop := fnNestsRow.holds Try.pinned (OpenSpec.ofChange fnNestsSpec)

/-- ITS FALSE NEIGHBOUR: 'it returns false'. Refute it at one input. -/
def fnNestsWrong : ChangeSpec := { name := "fnNests", fn := fun _ => fun
  | [d] => { results := [.lit (.bool false)], args := [d] }
  | _ => none }
def FnNestsWrongFalsely : Prop := fnNestsRow.holds Try.pinned (OpenSpec.ofChange fnNestsWrong)

/- THE SECOND FORM. 'bulk': how many values and letters a reading holds, each counted each time it is reached (what is shared counts as often as it is met; a slice's spare places count too). A statement '..UptoSaid' is the law's where the arguments, and the package variables that the reading takes, are together of bulk at most 1048576: NARROWER than '..Said'. Prove '..Said' where nothing that the law and all that it calls make is longer than what came in: it says more and counts as full. Else prove '..UptoSaid'. A law counts once. -/
mutual
def uptoBulk {H : Type} : DataW H → Nat
  | .lit (.string bytes) => bytes.length + 1
  | .lit _ => 1
  | .nil => 1
  | .ptr d => uptoBulk d + 1
  | .slice elems spare => uptoBulkAll elems + uptoBulkAll spare + 1
  | .agg parts => uptoBulkAll parts + 1
  | .iface _ d => uptoBulk d + 1
  | .map entries => uptoBulkEntries entries + 1
  | .held _ => 1
def uptoBulkAll {H : Type} : List (DataW H) → Nat
  | [] => 0
  | d :: r => uptoBulk d + uptoBulkAll r
def uptoBulkEntries {H : Type} : List (Lit × DataW H) → Nat
  | [] => 0
  | x :: r => uptoBulkEntry x + uptoBulkEntries r
def uptoBulkEntry {H : Type} : Lit × DataW H → Nat
  | (.string bytes, d) => bytes.length + uptoBulk d + 1
  | (_, d) => uptoBulk d + 1
 end
def uptoSmall : (H : Type) → List (DataW H) → Bool := fun _ ds => decide (uptoBulkAll ds ≤ 1048576)
def OpenSpec.upto (s : _root_.Go.ChangeSpec) : _root_.Go.OpenSpec := { _root_.Go.OpenSpec.ofChange s with cond := some uptoSmall }

/-- 'laws.FnExactFitsIn', WHERE WHAT IT READS IS OF BULK AT MOST 1048576: true; the input reads as it did. -/
def fnExactFitsInUptoRow : OpenClaim := { program := "ytnipgigpjhalkaa", sum := "f7de7641c51f967a6fad543b374cb338d26ec054c8e2ab0be5943b58f3785637", func := "loop.example/g01064/laws.FnExactFitsIn", spec := "fnExactFitsIn", apart := false, narrowed := true }
def FnExactFitsInUptoSaid : Prop := fnExactFitsInUptoRow.holds Try.pinned (OpenSpec.upto fnExactFitsInSpec)

/-- 'laws.FnExactDeepIn', WHERE WHAT IT READS IS OF BULK AT MOST 1048576: true; the input reads as it did. -/
def fnExactDeepInUptoRow : OpenClaim := { program := "ytnipgigpjhalkaa", sum := "f7de7641c51f967a6fad543b374cb338d26ec054c8e2ab0be5943b58f3785637", func := "loop.example/g01064/laws.FnExactDeepIn", spec := "fnExactDeepIn", apart := false, narrowed := true }
def FnExactDeepInUptoSaid : Prop := fnExactDeepInUptoRow.holds Try.pinned (OpenSpec.upto fnExactDeepInSpec)

/-- 'laws.FnExactValidPots', WHERE WHAT IT READS IS OF BULK AT MOST 1048576: true; the input reads as it did. -/
def fnExactValidPotsUptoRow : OpenClaim := { program := "ytnipgigpjhalkaa", sum := "f7de7641c51f967a6fad543b374cb338d26ec054c8e2ab0be5943b58f3785637", func := "loop.example/g01064/laws.FnExactValidPots", spec := "fnExactValidPots", apart := false, narrowed := true }
def FnExactValidPotsUptoSaid : Prop := fnExactValidPotsUptoRow.holds Try.pinned (OpenSpec.upto fnExactValidPotsSpec)

/-- 'laws.FnExactLonelyPots', WHERE WHAT IT READS IS OF BULK AT MOST 1048576: true; the input reads as it did. -/
def fnExactLonelyPotsUptoRow : OpenClaim := { program := "ytnipgigpjhalkaa", sum := "f7de7641c51f967a6fad543b374cb338d26ec054c8e2ab0be5943b58f3785637", func := "loop.example/g01064/laws.FnExactLonelyPots", spec := "fnExactLonelyPots", apart := false, narrowed := true }
def FnExactLonelyPotsUptoSaid : Prop := fnExactLonelyPotsUptoRow.holds Try.pinned (OpenSpec.upto fnExactLonelyPotsSpec)

/-- 'laws.FnExactFewestPiles', WHERE WHAT IT READS IS OF BULK AT MOST 1048576: true; the input reads as it did. -/
def fnExactFewestPilesUptoRow : OpenClaim := { program := "ytnipgigpjhalkaa", sum := "f7de7641c51f967a6fad543b374cb338d26ec054c8e2ab0be5943b58f3785637", func := "loop.example/g01064/laws.FnExactFewestPiles", spec := "fnExactFewestPiles", unfollowed := true, recurses := true, apart := false, narrowed := true }
def FnExactFewestPilesUptoSaid : Prop := fnExactFewestPilesUptoRow.holds Try.pinned (OpenSpec.upto fnExactFewestPilesSpec)

/-- 'laws.FnExactHeightOfPile', WHERE WHAT IT READS IS OF BULK AT MOST 1048576: true; the input reads as it did. -/
def fnExactHeightOfPileUptoRow : OpenClaim := { program := "ytnipgigpjhalkaa", sum := "f7de7641c51f967a6fad543b374cb338d26ec054c8e2ab0be5943b58f3785637", func := "loop.example/g01064/laws.FnExactHeightOfPile", spec := "fnExactHeightOfPile", apart := false, narrowed := true }
def FnExactHeightOfPileUptoSaid : Prop := fnExactHeightOfPileUptoRow.holds Try.pinned (OpenSpec.upto fnExactHeightOfPileSpec)

/-- 'laws.FnExactLongestNest', WHERE WHAT IT READS IS OF BULK AT MOST 1048576: true; the input reads as it did. -/
def fnExactLongestNestUptoRow : OpenClaim := { program := "ytnipgigpjhalkaa", sum := "f7de7641c51f967a6fad543b374cb338d26ec054c8e2ab0be5943b58f3785637", func := "loop.example/g01064/laws.FnExactLongestNest", spec := "fnExactLongestNest", recurses := true, apart := false, narrowed := true }
def FnExactLongestNestUptoSaid : Prop := fnExactLongestNestUptoRow.holds Try.pinned (OpenSpec.upto fnExactLongestNestSpec)

/-- 'laws.FnExactFloorFor', WHERE WHAT IT READS IS OF BULK AT MOST 1048576: true; the input reads as it did. -/
def fnExactFloorForUptoRow : OpenClaim := { program := "ytnipgigpjhalkaa", sum := "f7de7641c51f967a6fad543b374cb338d26ec054c8e2ab0be5943b58f3785637", func := "loop.example/g01064/laws.FnExactFloorFor", spec := "fnExactFloorFor", apart := false, narrowed := true }
def FnExactFloorForUptoSaid : Prop := fnExactFloorForUptoRow.holds Try.pinned (OpenSpec.upto fnExactFloorForSpec)

/-- 'laws.FnExactPilesOf', WHERE WHAT IT READS IS OF BULK AT MOST 1048576: true; the input reads as it did. -/
def fnExactPilesOfUptoRow : OpenClaim := { program := "ytnipgigpjhalkaa", sum := "f7de7641c51f967a6fad543b374cb338d26ec054c8e2ab0be5943b58f3785637", func := "loop.example/g01064/laws.FnExactPilesOf", spec := "fnExactPilesOf", unfollowed := true, recurses := true, apart := false, narrowed := true }
def FnExactPilesOfUptoSaid : Prop := fnExactPilesOfUptoRow.holds Try.pinned (OpenSpec.upto fnExactPilesOfSpec)

/-- 'laws.FnPiles', WHERE WHAT IT READS IS OF BULK AT MOST 1048576: true; the input reads as it did. -/
def fnPilesUptoRow : OpenClaim := { program := "ytnipgigpjhalkaa", sum := "f7de7641c51f967a6fad543b374cb338d26ec054c8e2ab0be5943b58f3785637", func := "loop.example/g01064/laws.FnPiles", spec := "fnPiles", apart := false, narrowed := true }
def FnPilesUptoSaid : Prop := fnPilesUptoRow.holds Try.pinned (OpenSpec.upto fnPilesSpec)

/-- 'laws.FnNests', WHERE WHAT IT READS IS OF BULK AT MOST 1048576: true; the input reads as it did. -/
def fnNestsUptoRow : OpenClaim := { program := "ytnipgigpjhalkaa", sum := "f7de7641c51f967a6fad543b374cb338d26ec054c8e2ab0be5943b58f3785637", func := "loop.example/g01064/laws.FnNests", spec := "fnNests", unfollowed := true, recurses := true, apart := false, narrowed := true }
def FnNestsUptoSaid : Prop := fnNestsUptoRow.holds Try.pinned (OpenSpec.upto fnNestsSpec)

end Rows
end Go.Proofs.Ytnipgigpjhalkaa
