/-
  No cell of these rows narrows 'for every input' (looked for: loops, veiled, ifaces, maps, wideKeys, modest, calm, conditions, laid).
  DERIVED. THE GIVEN ROWS OF THIS SEAT. 10 by the template 'for every input the law returns true; each argument reads behind the call as it read before'; 0 by the template 'total and deterministic' (their statements: YtlhcepcgjnlopaaTotals.lean).
  GIVEN WITH THE SEED: the statements are not yours to turn. If you find one false, say at which input.
  Laid BY PROGRAM, IN A SANDBOX (cutbox-rows.mjs): the forced cells as the released guide's own fill.sh prints them over the translation a36f6b385f7654d7… (all of the seat's roots in one cut). By AI agents, Wed Nov 11 2026. No macro, syntax, notation, axiom, sorry.
-/
import Derived.Test.YtlhcepcgjnlopaaChecked
import GoSem.Claim
import GoSem.ClaimJoined
import GoSem.ClaimMapViews
import Derived.JoinedTies
import Derived.KernelRfl
namespace Go.Proofs.Ytlhcepcgjnlopaa
/- THE CELL 'sum', in the pinned program and in every row, IS THE sha256 OF THE DUMP (.gsa) THAT YtlhcepcgjnlopaaProg.lean LOADS. Nothing in Lean hashes anything: it is a label: what it is worth is what the hold of that sum in a sandbox is worth. -/
noncomputable def Try.pinned : Pinned := { name := "ytlhcepcgjnlopaa", sum := "a36f6b385f7654d7c62a24494418bc38ea9a6e68e084afa0dc5f1066616d2f94", checked := Try.checked }
namespace Rows
def none {H : Type} : Left H := { results := [], args := [] }

/-- 'laws.FnExactValidKinds': WHATEVER THE INPUT: true; the input reads as it did. -/
def fnExactValidKindsSpec : ChangeSpec := { name := "fnExactValidKinds", fn := fun _ => fun
  | [d] => { results := [.lit (.bool true)], args := [d] }
  | _ => none }
def fnExactValidKindsRow : OpenClaim := { program := "ytlhcepcgjnlopaa", sum := "a36f6b385f7654d7c62a24494418bc38ea9a6e68e084afa0dc5f1066616d2f94", func := "loop.example/g01064/laws.FnExactValidKinds", spec := "fnExactValidKinds", apart := false }
def FnExactValidKindsSaid : Prop := fnExactValidKindsRow.holds Try.pinned (OpenSpec.ofChange fnExactValidKindsSpec)

/-- ITS FALSE NEIGHBOUR: 'it returns false'. Refute it at one input. -/
def fnExactValidKindsWrong : ChangeSpec := { name := "fnExactValidKinds", fn := fun _ => fun
  | [d] => { results := [.lit (.bool false)], args := [d] }
  | _ => none }
def FnExactValidKindsWrongFalsely : Prop := fnExactValidKindsRow.holds Try.pinned (OpenSpec.ofChange fnExactValidKindsWrong)

/-- 'laws.FnExactSameKinds': WHATEVER THE INPUT: true; the input reads as it did. -/
def fnExactSameKindsSpec : ChangeSpec := { name := "fnExactSameKinds", fn := fun _ => fun
  | [d1, d2] => { results := [.lit (.bool true)], args := [d1, d2] }
  | _ => none }
def fnExactSameKindsRow : OpenClaim := { program := "ytlhcepcgjnlopaa", sum := "a36f6b385f7654d7c62a24494418bc38ea9a6e68e084afa0dc5f1066616d2f94", func := "loop.example/g01064/laws.FnExactSameKinds", spec := "fnExactSameKinds", apart := false }
def FnExactSameKindsSaid : Prop := fnExactSameKindsRow.holds Try.pinned (OpenSpec.ofChange fnExactSameKindsSpec)

/-- ITS FALSE NEIGHBOUR: 'it returns false'. Refute it at one input. -/
def fnExactSameKindsWrong : ChangeSpec := { name := "fnExactSameKinds", fn := fun _ => fun
  | [d1, d2] => { results := [.lit (.bool false)], args := [d1, d2] }
  | _ => none }
def FnExactSameKindsWrongFalsely : Prop := fnExactSameKindsRow.holds Try.pinned (OpenSpec.ofChange fnExactSameKindsWrong)

/-- 'laws.FnExactAllReach': WHATEVER THE INPUT: true; the input reads as it did. -/
def fnExactAllReachSpec : ChangeSpec := { name := "fnExactAllReach", fn := fun _ => fun
  | [d] => { results := [.lit (.bool true)], args := [d] }
  | _ => none }
def fnExactAllReachRow : OpenClaim := { program := "ytlhcepcgjnlopaa", sum := "a36f6b385f7654d7c62a24494418bc38ea9a6e68e084afa0dc5f1066616d2f94", func := "loop.example/g01064/laws.FnExactAllReach", spec := "fnExactAllReach", apart := false }
def FnExactAllReachSaid : Prop := fnExactAllReachRow.holds Try.pinned (OpenSpec.ofChange fnExactAllReachSpec)

/-- ITS FALSE NEIGHBOUR: 'it returns false'. Refute it at one input. -/
def fnExactAllReachWrong : ChangeSpec := { name := "fnExactAllReach", fn := fun _ => fun
  | [d] => { results := [.lit (.bool false)], args := [d] }
  | _ => none }
def FnExactAllReachWrongFalsely : Prop := fnExactAllReachRow.holds Try.pinned (OpenSpec.ofChange fnExactAllReachWrong)

/-- 'laws.FnExactRoundsFrom': WHATEVER THE INPUT: true; the input reads as it did. -/
def fnExactRoundsFromSpec : ChangeSpec := { name := "fnExactRoundsFrom", fn := fun _ => fun
  | [d1, d2] => { results := [.lit (.bool true)], args := [d1, d2] }
  | _ => none }
def fnExactRoundsFromRow : OpenClaim := { program := "ytlhcepcgjnlopaa", sum := "a36f6b385f7654d7c62a24494418bc38ea9a6e68e084afa0dc5f1066616d2f94", func := "loop.example/g01064/laws.FnExactRoundsFrom", spec := "fnExactRoundsFrom", apart := false }
def FnExactRoundsFromSaid : Prop := fnExactRoundsFromRow.holds Try.pinned (OpenSpec.ofChange fnExactRoundsFromSpec)

/-- ITS FALSE NEIGHBOUR: 'it returns false'. Refute it at one input. -/
def fnExactRoundsFromWrong : ChangeSpec := { name := "fnExactRoundsFrom", fn := fun _ => fun
  | [d1, d2] => { results := [.lit (.bool false)], args := [d1, d2] }
  | _ => none }
def FnExactRoundsFromWrongFalsely : Prop := fnExactRoundsFromRow.holds Try.pinned (OpenSpec.ofChange fnExactRoundsFromWrong)

/-- 'laws.FnExactReachOf': WHATEVER THE INPUT: true; the input reads as it did. -/
def fnExactReachOfSpec : ChangeSpec := { name := "fnExactReachOf", fn := fun _ => fun
  | [d1, d2] => { results := [.lit (.bool true)], args := [d1, d2] }
  | _ => none }
def fnExactReachOfRow : OpenClaim := { program := "ytlhcepcgjnlopaa", sum := "a36f6b385f7654d7c62a24494418bc38ea9a6e68e084afa0dc5f1066616d2f94", func := "loop.example/g01064/laws.FnExactReachOf", spec := "fnExactReachOf", apart := false }
def FnExactReachOfSaid : Prop := fnExactReachOfRow.holds Try.pinned (OpenSpec.ofChange fnExactReachOfSpec)

/-- ITS FALSE NEIGHBOUR: 'it returns false'. Refute it at one input. -/
def fnExactReachOfWrong : ChangeSpec := { name := "fnExactReachOf", fn := fun _ => fun
  | [d1, d2] => { results := [.lit (.bool false)], args := [d1, d2] }
  | _ => none }
def FnExactReachOfWrongFalsely : Prop := fnExactReachOfRow.holds Try.pinned (OpenSpec.ofChange fnExactReachOfWrong)

/-- 'laws.FnExactTakeRods': WHATEVER THE INPUT: true; the input reads as it did. -/
def fnExactTakeRodsSpec : ChangeSpec := { name := "fnExactTakeRods", fn := fun _ => fun
  | [d1, d2] => { results := [.lit (.bool true)], args := [d1, d2] }
  | _ => none }
def fnExactTakeRodsRow : OpenClaim := { program := "ytlhcepcgjnlopaa", sum := "a36f6b385f7654d7c62a24494418bc38ea9a6e68e084afa0dc5f1066616d2f94", func := "loop.example/g01064/laws.FnExactTakeRods", spec := "fnExactTakeRods", apart := false }
def FnExactTakeRodsSaid : Prop := fnExactTakeRodsRow.holds Try.pinned (OpenSpec.ofChange fnExactTakeRodsSpec)

/-- ITS FALSE NEIGHBOUR: 'it returns false'. Refute it at one input. -/
def fnExactTakeRodsWrong : ChangeSpec := { name := "fnExactTakeRods", fn := fun _ => fun
  | [d1, d2] => { results := [.lit (.bool false)], args := [d1, d2] }
  | _ => none }
def FnExactTakeRodsWrongFalsely : Prop := fnExactTakeRodsRow.holds Try.pinned (OpenSpec.ofChange fnExactTakeRodsWrong)

/-- 'laws.FnExactWaysToReach': WHATEVER THE INPUT: true; the input reads as it did. -/
def fnExactWaysToReachSpec : ChangeSpec := { name := "fnExactWaysToReach", fn := fun _ => fun
  | [d1, d2] => { results := [.lit (.bool true)], args := [d1, d2] }
  | _ => none }
def fnExactWaysToReachRow : OpenClaim := { program := "ytlhcepcgjnlopaa", sum := "a36f6b385f7654d7c62a24494418bc38ea9a6e68e084afa0dc5f1066616d2f94", func := "loop.example/g01064/laws.FnExactWaysToReach", spec := "fnExactWaysToReach", recurses := true, apart := false }
def FnExactWaysToReachSaid : Prop := fnExactWaysToReachRow.holds Try.pinned (OpenSpec.ofChange fnExactWaysToReachSpec)

/-- ITS FALSE NEIGHBOUR: 'it returns false'. Refute it at one input. -/
def fnExactWaysToReachWrong : ChangeSpec := { name := "fnExactWaysToReach", fn := fun _ => fun
  | [d1, d2] => { results := [.lit (.bool false)], args := [d1, d2] }
  | _ => none }
def FnExactWaysToReachWrongFalsely : Prop := fnExactWaysToReachRow.holds Try.pinned (OpenSpec.ofChange fnExactWaysToReachWrong)

/-- 'laws.FnExactFewestRods': WHATEVER THE INPUT: true; the input reads as it did. -/
def fnExactFewestRodsSpec : ChangeSpec := { name := "fnExactFewestRods", fn := fun _ => fun
  | [d1, d2] => { results := [.lit (.bool true)], args := [d1, d2] }
  | _ => none }
def fnExactFewestRodsRow : OpenClaim := { program := "ytlhcepcgjnlopaa", sum := "a36f6b385f7654d7c62a24494418bc38ea9a6e68e084afa0dc5f1066616d2f94", func := "loop.example/g01064/laws.FnExactFewestRods", spec := "fnExactFewestRods", unfollowed := true, recurses := true, apart := false }
def FnExactFewestRodsSaid : Prop := fnExactFewestRodsRow.holds Try.pinned (OpenSpec.ofChange fnExactFewestRodsSpec)

/-- ITS FALSE NEIGHBOUR: 'it returns false'. Refute it at one input. -/
def fnExactFewestRodsWrong : ChangeSpec := { name := "fnExactFewestRods", fn := fun _ => fun
  | [d1, d2] => { results := [.lit (.bool false)], args := [d1, d2] }
  | _ => none }
def FnExactFewestRodsWrongFalsely : Prop := fnExactFewestRodsRow.holds Try.pinned (OpenSpec.ofChange fnExactFewestRodsWrong)

/-- 'laws.FnExactLeastOver': WHATEVER THE INPUT: true; the input reads as it did. -/
def fnExactLeastOverSpec : ChangeSpec := { name := "fnExactLeastOver", fn := fun _ => fun
  | [d1, d2] => { results := [.lit (.bool true)], args := [d1, d2] }
  | _ => none }
def fnExactLeastOverRow : OpenClaim := { program := "ytlhcepcgjnlopaa", sum := "a36f6b385f7654d7c62a24494418bc38ea9a6e68e084afa0dc5f1066616d2f94", func := "loop.example/g01064/laws.FnExactLeastOver", spec := "fnExactLeastOver", unfollowed := true, recurses := true, apart := false }
def FnExactLeastOverSaid : Prop := fnExactLeastOverRow.holds Try.pinned (OpenSpec.ofChange fnExactLeastOverSpec)

/-- ITS FALSE NEIGHBOUR: 'it returns false'. Refute it at one input. -/
def fnExactLeastOverWrong : ChangeSpec := { name := "fnExactLeastOver", fn := fun _ => fun
  | [d1, d2] => { results := [.lit (.bool false)], args := [d1, d2] }
  | _ => none }
def FnExactLeastOverWrongFalsely : Prop := fnExactLeastOverRow.holds Try.pinned (OpenSpec.ofChange fnExactLeastOverWrong)

/-- 'laws.FnSupplies': WHATEVER THE INPUT: true; the input reads as it did. -/
def fnSuppliesSpec : ChangeSpec := { name := "fnSupplies", fn := fun _ => fun
  | [d1, d2] => { results := [.lit (.bool true)], args := [d1, d2] }
  | _ => none }
def fnSuppliesRow : OpenClaim := { program := "ytlhcepcgjnlopaa", sum := "a36f6b385f7654d7c62a24494418bc38ea9a6e68e084afa0dc5f1066616d2f94", func := "loop.example/g01064/laws.FnSupplies", spec := "fnSupplies", unfollowed := true, recurses := true, apart := false }
def FnSuppliesSaid : Prop := fnSuppliesRow.holds Try.pinned (OpenSpec.ofChange fnSuppliesSpec)

/-- ITS FALSE NEIGHBOUR: 'it returns false'. Refute it at one input. -/
def fnSuppliesWrong : ChangeSpec := { name := "fnSupplies", fn := fun _ => fun
  | [d1, d2] => { results := [.lit (.bool false)], args := [d1, d2] }
  | _ => none }
def FnSuppliesWrongFalsely : Prop := fnSuppliesRow.holds Try.pinned (OpenSpec.ofChange fnSuppliesWrong)

/- THE SECOND FORM. 'bulk': how many values and letters a reading holds, each counted each time it is reached (what is shared counts as often as it is met; a slice's spare places count too). A statement '..UptoSaid' is the law's where the arguments, and the package variables that the reading takes, are together of bulk at most 1048576: NARROWER than '..Said'. Prove '..Said' where nothing that the law and all that it calls make is longer than what came in: it says more and counts as full. Else prove '..UptoSaid'. A law counts once. -/
mutual
def uptoBulk {H : Type} : DataW H → Nat
  | .lit (.string bytes) => bytes.length + 1
  | .lit _ => 1
  | .nil => 1
  | .ptr d => uptoBulk d + 1
  | .slice elems spare => uptoBulkAll elems + uptoBulkAll spare + 1
  | .agg parts => uptoBulkAll parts + 1
  | .iface _ d => uptoBulk d + 1
  | .map entries => uptoBulkEntries entries + 1
  | .held _ => 1
def uptoBulkAll {H : Type} : List (DataW H) → Nat
  | [] => 0
  | d :: r => uptoBulk d + uptoBulkAll r
def uptoBulkEntries {H : Type} : List (Lit × DataW H) → Nat
  | [] => 0
  | x :: r => uptoBulkEntry x + uptoBulkEntries r
def uptoBulkEntry {H : Type} : Lit × DataW H → Nat
  | (.string bytes, d) => bytes.length + uptoBulk d + 1
  | (_, d) => uptoBulk d + 1
 end
def uptoSmall : (H : Type) → List (DataW H) → Bool := fun _ ds => decide (uptoBulkAll ds ≤ 1048576)
def OpenSpec.upto (s : _root_.Go.ChangeSpec) : _root_.Go.OpenSpec := { _root_.Go.OpenSpec.ofChange s with cond := some uptoSmall }

/-- 'laws.FnExactValidKinds', WHERE WHAT IT READS IS OF BULK AT MOST 1048576: true; the input reads as it did. -/
def fnExactValidKindsUptoRow : OpenClaim := { program := "ytlhcepcgjnlopaa", sum := "a36f6b385f7654d7c62a24494418bc38ea9a6e68e084afa0dc5f1066616d2f94", func := "loop.example/g01064/laws.FnExactValidKinds", spec := "fnExactValidKinds", apart := false, narrowed := true }
def FnExactValidKindsUptoSaid : Prop := fnExactValidKindsUptoRow.holds Try.pinned (OpenSpec.upto fnExactValidKindsSpec)

/-- 'laws.FnExactSameKinds', WHERE WHAT IT READS IS OF BULK AT MOST 1048576: true; the input reads as it did. -/
def fnExactSameKindsUptoRow : OpenClaim := { program := "ytlhcepcgjnlopaa", sum := "a36f6b385f7654d7c62a24494418bc38ea9a6e68e084afa0dc5f1066616d2f94", func := "loop.example/g01064/laws.FnExactSameKinds", spec := "fnExactSameKinds", apart := false, narrowed := true }
def FnExactSameKindsUptoSaid : Prop := fnExactSameKindsUptoRow.holds Try.pinned (OpenSpec.upto fnExactSameKindsSpec)

/-- 'laws.FnExactAllReach', WHERE WHAT IT READS IS OF BULK AT MOST 1048576: true; the input reads as it did. -/
def fnExactAllReachUptoRow : OpenClaim := { program := "ytlhcepcgjnlopaa", sum := "a36f6b385f7654d7c62a24494418bc38ea9a6e68e084afa0dc5f1066616d2f94", func := "loop.example/g01064/laws.FnExactAllReach", spec := "fnExactAllReach", apart := false, narrowed := true }
def FnExactAllReachUptoSaid : Prop := fnExactAllReachUptoRow.holds Try.pinned (OpenSpec.upto fnExactAllReachSpec)

/-- 'laws.FnExactRoundsFrom', WHERE WHAT IT READS IS OF BULK AT MOST 1048576: true; the input reads as it did. -/
def fnExactRoundsFromUptoRow : OpenClaim := { program := "ytlhcepcgjnlopaa", sum := "a36f6b385f7654d7c62a24494418bc38ea9a6e68e084afa0dc5f1066616d2f94", func := "loop.example/g01064/laws.FnExactRoundsFrom", spec := "fnExactRoundsFrom", apart := false, narrowed := true }
def FnExactRoundsFromUptoSaid : Prop := fnExactRoundsFromUptoRow.holds Try.pinned (OpenSpec.upto fnExactRoundsFromSpec)

/-- 'laws.FnExactReachOf', WHERE WHAT IT READS IS OF BULK AT MOST 1048576: true; the input reads as it did. -/
def fnExactReachOfUptoRow : OpenClaim := { program := "ytlhcepcgjnlopaa", sum := "a36f6b385f7654d7c62a24494418bc38ea9a6e68e084afa0dc5f1066616d2f94", func := "loop.example/g01064/laws.FnExactReachOf", spec := "fnExactReachOf", apart := false, narrowed := true }
def FnExactReachOfUptoSaid : Prop := fnExactReachOfUptoRow.holds Try.pinned (OpenSpec.upto fnExactReachOfSpec)

/-- 'laws.FnExactTakeRods', WHERE WHAT IT READS IS OF BULK AT MOST 1048576: true; the input reads as it did. -/
def fnExactTakeRodsUptoRow : OpenClaim := { program := "ytlhcepcgjnlopaa", sum := "a36f6b385f7654d7c62a24494418bc38ea9a6e68e084afa0dc5f1066616d2f94", func := "loop.example/g01064/laws.FnExactTakeRods", spec := "fnExactTakeRods", apart := false, narrowed := true }
def FnExactTakeRodsUptoSaid : Prop := fnExactTakeRodsUptoRow.holds Try.pinned (OpenSpec.upto fnExactTakeRodsSpec)

/-- 'laws.FnExactWaysToReach', WHERE WHAT IT READS IS OF BULK AT MOST 1048576: true; the input reads as it did. -/
def fnExactWaysToReachUptoRow : OpenClaim := { program := "ytlhcepcgjnlopaa", sum := "a36f6b385f7654d7c62a24494418bc38ea9a6e68e084afa0dc5f1066616d2f94", func := "loop.example/g01064/laws.FnExactWaysToReach", spec := "fnExactWaysToReach", recurses := true, apart := false, narrowed := true }
def FnExactWaysToReachUptoSaid : Prop := fnExactWaysToReachUptoRow.holds Try.pinned (OpenSpec.upto fnExactWaysToReachSpec)

/-- 'laws.FnExactFewestRods', WHERE WHAT IT READS IS OF BULK AT MOST 1048576: true; the input reads as it did. -/
def fnExactFewestRodsUptoRow : OpenClaim := { program := "ytlhcepcgjnlopaa", sum := "a36f6b385f7654d7c62a24494418bc38ea9a6e68e084afa0dc5f1066616d2f94", func := "loop.example/g01064/laws.FnExactFewestRods", spec := "fnExactFewestRods", unfollowed := true, recurses := true, apart := false, narrowed := true }
def FnExactFewestRodsUptoSaid : Prop := fnExactFewestRodsUptoRow.holds Try.pinned (OpenSpec.upto fnExactFewestRodsSpec)

/-- 'laws.FnExactLeastOver', WHERE WHAT IT READS IS OF BULK AT MOST 1048576: true; the input reads as it did. -/
def fnExactLeastOverUptoRow : OpenClaim := { program := "ytlhcepcgjnlopaa", sum := "a36f6b385f7654d7c62a24494418bc38ea9a6e68e084afa0dc5f1066616d2f94", func := "loop.example/g01064/laws.FnExactLeastOver", spec := "fnExactLeastOver", unfollowed := true, recurses := true, apart := false, narrowed := true }
def FnExactLeastOverUptoSaid : Prop := fnExactLeastOverUptoRow.holds Try.pinned (OpenSpec.upto fnExactLeastOverSpec)

/-- 'laws.FnSupplies', WHERE WHAT IT READS IS OF BULK AT MOST 1048576: true; the input reads as it did. -/
def fnSuppliesUptoRow : OpenClaim := { program := "ytlhcepcgjnlopaa", sum := "a36f6b385f7654d7c62a24494418bc38ea9a6e68e084afa0dc5f1066616d2f94", func := "loop.example/g01064/laws.FnSupplies", spec := "fnSupplies", unfollowed := true, recurses := true, apart := false, narrowed := true }
def FnSuppliesUptoSaid : Prop := fnSuppliesUptoRow.holds Try.pinned (OpenSpec.upto fnSuppliesSpec)

end Rows
end Go.Proofs.Ytlhcepcgjnlopaa
