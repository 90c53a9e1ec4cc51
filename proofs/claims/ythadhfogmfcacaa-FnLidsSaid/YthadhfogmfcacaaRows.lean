/-
  No cell of these rows narrows 'for every input' (looked for: loops, veiled, ifaces, maps, wideKeys, modest, calm, conditions, laid).
  DERIVED. THE GIVEN ROWS OF THIS SEAT. 8 by the template 'for every input the law returns true; each argument reads behind the call as it read before'; 0 by the template 'total and deterministic' (their statements: YthadhfogmfcacaaTotals.lean).
  GIVEN WITH THE SEED: the statements are not yours to turn. If you find one false, say at which input.
  Laid BY PROGRAM, IN A SANDBOX (cutbox-rows.mjs): the forced cells as the released guide's own fill.sh prints them over the translation 3676a043e700db6f… (all of the seat's roots in one cut). By AI agents, Wed Nov 11 2026. No macro, syntax, notation, axiom, sorry.
-/
import Derived.Test.YthadhfogmfcacaaChecked
import GoSem.Claim
import GoSem.ClaimJoined
import GoSem.ClaimMapViews
import Derived.JoinedTies
import Derived.KernelRfl
namespace Go.Proofs.Ythadhfogmfcacaa
/- THE CELL 'sum', in the pinned program and in every row, IS THE sha256 OF THE DUMP (.gsa) THAT YthadhfogmfcacaaProg.lean LOADS. Nothing in Lean hashes anything: it is a label: what it is worth is what the hold of that sum in a sandbox is worth. -/
noncomputable def Try.pinned : Pinned := { name := "ythadhfogmfcacaa", sum := "3676a043e700db6f4dd2ac0bf9c064a28a8a0a4f1521c69e6d5df85a1b1290b7", checked := Try.checked }
namespace Rows
def none {H : Type} : Left H := { results := [], args := [] }

/-- 'laws.FnExactLidFits': WHATEVER THE INPUT: true; the input reads as it did. -/
def fnExactLidFitsSpec : ChangeSpec := { name := "fnExactLidFits", fn := fun _ => fun
  | [d1, d2, d3] => { results := [.lit (.bool true)], args := [d1, d2, d3] }
  | _ => none }
def fnExactLidFitsRow : OpenClaim := { program := "ythadhfogmfcacaa", sum := "3676a043e700db6f4dd2ac0bf9c064a28a8a0a4f1521c69e6d5df85a1b1290b7", func := "loop.example/g01064/laws.FnExactLidFits", spec := "fnExactLidFits", apart := false }
def FnExactLidFitsSaid : Prop := fnExactLidFitsRow.holds Try.pinned (OpenSpec.ofChange fnExactLidFitsSpec)

/-- ITS FALSE NEIGHBOUR: 'it returns false'. Refute it at one input. -/
def fnExactLidFitsWrong : ChangeSpec := { name := "fnExactLidFits", fn := fun _ => fun
  | [d1, d2, d3] => { results := [.lit (.bool false)], args := [d1, d2, d3] }
  | _ => none }
def FnExactLidFitsWrongFalsely : Prop := fnExactLidFitsRow.holds Try.pinned (OpenSpec.ofChange fnExactLidFitsWrong)

/-- 'laws.FnExactSlackOf': WHATEVER THE INPUT: true; the input reads as it did. -/
def fnExactSlackOfSpec : ChangeSpec := { name := "fnExactSlackOf", fn := fun _ => fun
  | [d1, d2] => { results := [.lit (.bool true)], args := [d1, d2] }
  | _ => none }
def fnExactSlackOfRow : OpenClaim := { program := "ythadhfogmfcacaa", sum := "3676a043e700db6f4dd2ac0bf9c064a28a8a0a4f1521c69e6d5df85a1b1290b7", func := "loop.example/g01064/laws.FnExactSlackOf", spec := "fnExactSlackOf", apart := false }
def FnExactSlackOfSaid : Prop := fnExactSlackOfRow.holds Try.pinned (OpenSpec.ofChange fnExactSlackOfSpec)

/-- ITS FALSE NEIGHBOUR: 'it returns false'. Refute it at one input. -/
def fnExactSlackOfWrong : ChangeSpec := { name := "fnExactSlackOf", fn := fun _ => fun
  | [d1, d2] => { results := [.lit (.bool false)], args := [d1, d2] }
  | _ => none }
def FnExactSlackOfWrongFalsely : Prop := fnExactSlackOfRow.holds Try.pinned (OpenSpec.ofChange fnExactSlackOfWrong)

/-- 'laws.FnExactValidLids': WHATEVER THE INPUT: true; the input reads as it did. -/
def fnExactValidLidsSpec : ChangeSpec := { name := "fnExactValidLids", fn := fun _ => fun
  | [d] => { results := [.lit (.bool true)], args := [d] }
  | _ => none }
def fnExactValidLidsRow : OpenClaim := { program := "ythadhfogmfcacaa", sum := "3676a043e700db6f4dd2ac0bf9c064a28a8a0a4f1521c69e6d5df85a1b1290b7", func := "loop.example/g01064/laws.FnExactValidLids", spec := "fnExactValidLids", apart := false }
def FnExactValidLidsSaid : Prop := fnExactValidLidsRow.holds Try.pinned (OpenSpec.ofChange fnExactValidLidsSpec)

/-- ITS FALSE NEIGHBOUR: 'it returns false'. Refute it at one input. -/
def fnExactValidLidsWrong : ChangeSpec := { name := "fnExactValidLids", fn := fun _ => fun
  | [d] => { results := [.lit (.bool false)], args := [d] }
  | _ => none }
def FnExactValidLidsWrongFalsely : Prop := fnExactValidLidsRow.holds Try.pinned (OpenSpec.ofChange fnExactValidLidsWrong)

/-- 'laws.FnExactTightestLid': WHATEVER THE INPUT: true; the input reads as it did. -/
def fnExactTightestLidSpec : ChangeSpec := { name := "fnExactTightestLid", fn := fun _ => fun
  | [d1, d2, d3] => { results := [.lit (.bool true)], args := [d1, d2, d3] }
  | _ => none }
def fnExactTightestLidRow : OpenClaim := { program := "ythadhfogmfcacaa", sum := "3676a043e700db6f4dd2ac0bf9c064a28a8a0a4f1521c69e6d5df85a1b1290b7", func := "loop.example/g01064/laws.FnExactTightestLid", spec := "fnExactTightestLid", apart := false }
def FnExactTightestLidSaid : Prop := fnExactTightestLidRow.holds Try.pinned (OpenSpec.ofChange fnExactTightestLidSpec)

/-- ITS FALSE NEIGHBOUR: 'it returns false'. Refute it at one input. -/
def fnExactTightestLidWrong : ChangeSpec := { name := "fnExactTightestLid", fn := fun _ => fun
  | [d1, d2, d3] => { results := [.lit (.bool false)], args := [d1, d2, d3] }
  | _ => none }
def FnExactTightestLidWrongFalsely : Prop := fnExactTightestLidRow.holds Try.pinned (OpenSpec.ofChange fnExactTightestLidWrong)

/-- 'laws.FnExactLidsLeft': WHATEVER THE INPUT: true; the input reads as it did. -/
def fnExactLidsLeftSpec : ChangeSpec := { name := "fnExactLidsLeft", fn := fun _ => fun
  | [d1, d2, d3] => { results := [.lit (.bool true)], args := [d1, d2, d3] }
  | _ => none }
def fnExactLidsLeftRow : OpenClaim := { program := "ythadhfogmfcacaa", sum := "3676a043e700db6f4dd2ac0bf9c064a28a8a0a4f1521c69e6d5df85a1b1290b7", func := "loop.example/g01064/laws.FnExactLidsLeft", spec := "fnExactLidsLeft", apart := false }
def FnExactLidsLeftSaid : Prop := fnExactLidsLeftRow.holds Try.pinned (OpenSpec.ofChange fnExactLidsLeftSpec)

/-- ITS FALSE NEIGHBOUR: 'it returns false'. Refute it at one input. -/
def fnExactLidsLeftWrong : ChangeSpec := { name := "fnExactLidsLeft", fn := fun _ => fun
  | [d1, d2, d3] => { results := [.lit (.bool false)], args := [d1, d2, d3] }
  | _ => none }
def FnExactLidsLeftWrongFalsely : Prop := fnExactLidsLeftRow.holds Try.pinned (OpenSpec.ofChange fnExactLidsLeftWrong)

/-- 'laws.FnExactLeastSlack': WHATEVER THE INPUT: true; the input reads as it did. -/
def fnExactLeastSlackSpec : ChangeSpec := { name := "fnExactLeastSlack", fn := fun _ => fun
  | [d1, d2] => { results := [.lit (.bool true)], args := [d1, d2] }
  | _ => none }
def fnExactLeastSlackRow : OpenClaim := { program := "ythadhfogmfcacaa", sum := "3676a043e700db6f4dd2ac0bf9c064a28a8a0a4f1521c69e6d5df85a1b1290b7", func := "loop.example/g01064/laws.FnExactLeastSlack", spec := "fnExactLeastSlack", unfollowed := true, recurses := true, apart := false }
def FnExactLeastSlackSaid : Prop := fnExactLeastSlackRow.holds Try.pinned (OpenSpec.ofChange fnExactLeastSlackSpec)

/-- ITS FALSE NEIGHBOUR: 'it returns false'. Refute it at one input. -/
def fnExactLeastSlackWrong : ChangeSpec := { name := "fnExactLeastSlack", fn := fun _ => fun
  | [d1, d2] => { results := [.lit (.bool false)], args := [d1, d2] }
  | _ => none }
def FnExactLeastSlackWrongFalsely : Prop := fnExactLeastSlackRow.holds Try.pinned (OpenSpec.ofChange fnExactLeastSlackWrong)

/-- 'laws.FnExactLidsFor': WHATEVER THE INPUT: true; the input reads as it did. -/
def fnExactLidsForSpec : ChangeSpec := { name := "fnExactLidsFor", fn := fun _ => fun
  | [d1, d2, d3] => { results := [.lit (.bool true)], args := [d1, d2, d3] }
  | _ => none }
def fnExactLidsForRow : OpenClaim := { program := "ythadhfogmfcacaa", sum := "3676a043e700db6f4dd2ac0bf9c064a28a8a0a4f1521c69e6d5df85a1b1290b7", func := "loop.example/g01064/laws.FnExactLidsFor", spec := "fnExactLidsFor", unfollowed := true, recurses := true, apart := false }
def FnExactLidsForSaid : Prop := fnExactLidsForRow.holds Try.pinned (OpenSpec.ofChange fnExactLidsForSpec)

/-- ITS FALSE NEIGHBOUR: 'it returns false'. Refute it at one input. -/
def fnExactLidsForWrong : ChangeSpec := { name := "fnExactLidsFor", fn := fun _ => fun
  | [d1, d2, d3] => { results := [.lit (.bool false)], args := [d1, d2, d3] }
  | _ => none }
def FnExactLidsForWrongFalsely : Prop := fnExactLidsForRow.holds Try.pinned (OpenSpec.ofChange fnExactLidsForWrong)

/-- 'laws.FnLids': WHATEVER THE INPUT: true; the input reads as it did. -/
def fnLidsSpec : ChangeSpec := { name := "fnLids", fn := fun _ => fun
  | [d] => { results := [.lit (.bool true)], args := [d] }
  | _ => none }
def fnLidsRow : OpenClaim := { program := "ythadhfogmfcacaa", sum := "3676a043e700db6f4dd2ac0bf9c064a28a8a0a4f1521c69e6d5df85a1b1290b7", func := "loop.example/g01064/laws.FnLids", spec := "fnLids", unfollowed := true, recurses := true, apart := false }
def FnLidsSaid : Prop := fnLidsRow.holds Try.pinned (OpenSpec.ofChange fnLidsSpec)

/-- ITS FALSE NEIGHBOUR: 'it returns false'. Refute it at one input. -/
def fnLidsWrong : ChangeSpec := { name := "fnLids", fn := fun _ => fun
  | [d] => { results := [.lit (.bool false)], args := [d] }
  | _ => none }
def FnLidsWrongFalsely : Prop := fnLidsRow.holds Try.pinned (OpenSpec.ofChange fnLidsWrong)

/- THE SECOND FORM. 'bulk': how many values and letters a reading holds, each counted each time it is reached (what is shared counts as often as it is met; a slice's spare places count too). A statement '..UptoSaid' is the law's where the arguments, and the package variables that the reading takes, are together of bulk at most 1048576: NARROWER than '..Said'. Prove '..Said' where nothing that the law and all that it calls make is longer than what came in: it says more and counts as full. Else prove '..UptoSaid'. A law counts once. -/
mutual
def uptoBulk {H : Type} : DataW H → Nat
  | .lit (.string bytes) => bytes.length + 1
  | .lit _ => 1
  | .nil => 1
  | .ptr d => uptoBulk d + 1
  | .slice elems spare => uptoBulkAll elems + uptoBulkAll spare + 1
  | .agg parts => uptoBulkAll parts + 1
  | .iface _ d => uptoBulk d + 1
  | .map entries => uptoBulkEntries entries + 1
  | .held _ => 1
def uptoBulkAll {H : Type} : List (DataW H) → Nat
  | [] => 0
  | d :: r => uptoBulk d + uptoBulkAll r
def uptoBulkEntries {H : Type} : List (Lit × DataW H) → Nat
  | [] => 0
  | x :: r => uptoBulkEntry x + uptoBulkEntries r
def uptoBulkEntry {H : Type} : Lit × DataW H → Nat
  | (.string bytes, d) => bytes.length + uptoBulk d + 1
  | (_, d) => uptoBulk d + 1
 end
def uptoSmall : (H : Type) → List (DataW H) → Bool := fun _ ds => decide (uptoBulkAll ds ≤ 1048576)
def OpenSpec.upto (s : _root_.Go.ChangeSpec) : _root_.Go.OpenSpec := { _root_.Go.OpenSpec.ofChange s with cond := some uptoSmall }

/-- 'laws.FnExactLidFits', WHERE WHAT IT READS IS OF BULK AT MOST 1048576: true; the input reads as it did. -/
def fnExactLidFitsUptoRow : OpenClaim := { program := "ythadhfogmfcacaa", sum := "3676a043e700db6f4dd2ac0bf9c064a28a8a0a4f1521c69e6d5df85a1b1290b7", func := "loop.example/g01064/laws.FnExactLidFits", spec := "fnExactLidFits", apart := false, narrowed := true }
def FnExactLidFitsUptoSaid : Prop := fnExactLidFitsUptoRow.holds Try.pinned (OpenSpec.upto fnExactLidFitsSpec)

/-- 'laws.FnExactSlackOf', WHERE WHAT IT READS IS OF BULK AT MOST 1048576: true; the input reads as it did. -/
def fnExactSlackOfUptoRow : OpenClaim := { program := "ythadhfogmfcacaa", sum := "3676a043e700db6f4dd2ac0bf9c064a28a8a0a4f1521c69e6d5df85a1b1290b7", func := "loop.example/g01064/laws.FnExactSlackOf", spec := "fnExactSlackOf", apart := false, narrowed := true }
def FnExactSlackOfUptoSaid : Prop := fnExactSlackOfUptoRow.holds Try.pinned (OpenSpec.upto fnExactSlackOfSpec)

/-- 'laws.FnExactValidLids', WHERE WHAT IT READS IS OF BULK AT MOST 1048576: true; the input reads as it did. -/
def fnExactValidLidsUptoRow : OpenClaim := { program := "ythadhfogmfcacaa", sum := "3676a043e700db6f4dd2ac0bf9c064a28a8a0a4f1521c69e6d5df85a1b1290b7", func := "loop.example/g01064/laws.FnExactValidLids", spec := "fnExactValidLids", apart := false, narrowed := true }
def FnExactValidLidsUptoSaid : Prop := fnExactValidLidsUptoRow.holds Try.pinned (OpenSpec.upto fnExactValidLidsSpec)

/-- 'laws.FnExactTightestLid', WHERE WHAT IT READS IS OF BULK AT MOST 1048576: true; the input reads as it did. -/
def fnExactTightestLidUptoRow : OpenClaim := { program := "ythadhfogmfcacaa", sum := "3676a043e700db6f4dd2ac0bf9c064a28a8a0a4f1521c69e6d5df85a1b1290b7", func := "loop.example/g01064/laws.FnExactTightestLid", spec := "fnExactTightestLid", apart := false, narrowed := true }
def FnExactTightestLidUptoSaid : Prop := fnExactTightestLidUptoRow.holds Try.pinned (OpenSpec.upto fnExactTightestLidSpec)

/-- 'laws.FnExactLidsLeft', WHERE WHAT IT READS IS OF BULK AT MOST 1048576: true; the input reads as it did. -/
def fnExactLidsLeftUptoRow : OpenClaim := { program := "ythadhfogmfcacaa", sum := "3676a043e700db6f4dd2ac0bf9c064a28a8a0a4f1521c69e6d5df85a1b1290b7", func := "loop.example/g01064/laws.FnExactLidsLeft", spec := "fnExactLidsLeft", apart := false, narrowed := true }
def FnExactLidsLeftUptoSaid : Prop := fnExactLidsLeftUptoRow.holds Try.pinned (OpenSpec.upto fnExactLidsLeftSpec)

/-- 'laws.FnExactLeastSlack', WHERE WHAT IT READS IS OF BULK AT MOST 1048576: true; the input reads as it did. -/
def fnExactLeastSlackUptoRow : OpenClaim := { program := "ythadhfogmfcacaa", sum := "3676a043e700db6f4dd2ac0bf9c064a28a8a0a4f1521c69e6d5df85a1b1290b7", func := "loop.example/g01064/laws.FnExactLeastSlack", spec := "fnExactLeastSlack", unfollowed := true, recurses := true, apart := false, narrowed := true }
def FnExactLeastSlackUptoSaid : Prop := fnExactLeastSlackUptoRow.holds Try.pinned (OpenSpec.upto fnExactLeastSlackSpec)

/-- 'laws.FnExactLidsFor', WHERE WHAT IT READS IS OF BULK AT MOST 1048576: true; the input reads as it did. -/
def fnExactLidsForUptoRow : OpenClaim := { program := "ythadhfogmfcacaa", sum := "3676a043e700db6f4dd2ac0bf9c064a28a8a0a4f1521c69e6d5df85a1b1290b7", func := "loop.example/g01064/laws.FnExactLidsFor", spec := "fnExactLidsFor", unfollowed := true, recurses := true, apart := false, narrowed := true }
def FnExactLidsForUptoSaid : Prop := fnExactLidsForUptoRow.holds Try.pinned (OpenSpec.upto fnExactLidsForSpec)

/-- 'laws.FnLids', WHERE WHAT IT READS IS OF BULK AT MOST 1048576: true; the input reads as it did. -/
def fnLidsUptoRow : OpenClaim := { program := "ythadhfogmfcacaa", sum := "3676a043e700db6f4dd2ac0bf9c064a28a8a0a4f1521c69e6d5df85a1b1290b7", func := "loop.example/g01064/laws.FnLids", spec := "fnLids", unfollowed := true, recurses := true, apart := false, narrowed := true }
def FnLidsUptoSaid : Prop := fnLidsUptoRow.holds Try.pinned (OpenSpec.upto fnLidsSpec)

end Rows
end Go.Proofs.Ythadhfogmfcacaa
